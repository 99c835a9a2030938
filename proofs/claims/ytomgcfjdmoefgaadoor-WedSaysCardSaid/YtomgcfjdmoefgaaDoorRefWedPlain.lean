/- PLAIN LAW: all who are free ask at once: whom each has in the end is what asking one by one gives (no program in sight). -/
import Derived.Test.YtomgcfjdmoefgaaDoorWedPlain
namespace WedPlain

structure RInv (n : Nat) (a x y : Nat → Nat → Nat) (asked : Nat → Nat) : Prop where
  room : ∀ i, i < n → asked i < n
  held : ∀ i t, i < n → t < asked i → ∃ j, j < n ∧ a j (asked j) = a i t ∧ y (a i t) j < y (a i t) i
  low : ∀ M, Stable n x y M → ∀ i, i < n → asked i ≤ x i (M i)

theorem RInv.start {n : Nat} (a x y : Nat → Nat → Nat) : RInv n a x y (fun _ => 0) :=
  ⟨fun i h => by omega, fun i t _ h => absurd h (Nat.not_lt_zero _), fun M _ i _ => Nat.zero_le _⟩

variable {n : Nat} {a x y : Nat → Nat → Nat} {asked : Nat → Nat}

/-- i is refused by k for the sake of another one -/
theorem RInv.step (I : RInv n a x y asked) (L : Lists n a x) {i j k : Nat} (hi : i < n) (hj : j < n) (hij : i ≠ j) (hik : a i (asked i) = k) (hjk : a j (asked j) = k) (hy : y k j < y k i) : RInv n a x y (up asked i (asked i + 1)) := by
  have hk : k < n := by rw [← hik]; exact L.lt i _ hi (I.room i hi)
  have keep : ∀ q, q ≠ i → up asked i (asked i + 1) q = asked q := fun q h => up_other _ _ _ _ h
  -- who holds what i has asked
  have key : ∀ t, t < asked i + 1 → ∃ q, q < n ∧ q ≠ i ∧ a q (asked q) = a i t ∧ y (a i t) q < y (a i t) i := fun t ht => by
    rcases Nat.lt_or_ge t (asked i) with c | c
    · obtain ⟨q, q1, q2, q3⟩ := I.held i t hi c
      exact ⟨q, q1, fun e => by rw [e] at q3; omega, q2, q3⟩
    · obtain rfl : t = asked i := by omega
      rw [hik]
      exact ⟨j, hj, fun e => hij e.symm, hjk, hy⟩
  refine ⟨fun q hq => ?_, fun q t hq ht => ?_, fun M hM q hq => ?_⟩
  · by_cases c : q = i
    · subst c
      rw [up_same]
      have hr := I.room q hq
      rcases Nat.lt_or_ge (asked q + 1) n with d | d
      · exact d
      · exfalso
        -- all n are held by others than q
        have hall : ∀ m, m < n → ∃ p, p < n ∧ p ≠ q ∧ a p (asked p) = m := fun m hm => by
          have hxm := L.xlt q m hq hm
          obtain ⟨p, p1, p2, p3, _⟩ := key (x q m) (by omega)
          rw [L.ax q m hq hm] at p3
          exact ⟨p, p1, p2, p3⟩
        have hch : ∃ f : Nat → Nat, ∀ m, m < n → f m < n ∧ f m ≠ q ∧ a (f m) (asked (f m)) = m := by
          refine ⟨fun m => if h : m < n then (hall m h).choose else 0, fun m hm => ?_⟩
          simp only [dif_pos hm]
          exact (hall m hm).choose_spec
        obtain ⟨f, hf⟩ := hch
        refine pigeon_miss n f q hq (fun m hm => ⟨(hf m hm).1, (hf m hm).2.1⟩) (fun m m' hm hm' e => ?_)
        rw [← (hf m hm).2.2, ← (hf m' hm').2.2, e]
    · rw [keep q c]; exact I.room q hq
  · by_cases c : q = i
    · subst c
      rw [up_same] at ht
      obtain ⟨p, p1, p2, p3, p4⟩ := key t ht
      exact ⟨p, p1, by rw [keep p p2]; exact p3, p4⟩
    · rw [keep q c] at ht
      obtain ⟨p, p1, p2, p3⟩ := I.held q t hq ht
      by_cases d : p = i
      · subst d
        -- p asked k, which j asks, too
        have e : a q t = k := by rw [← p2]; exact hik
        rw [e] at p3 ⊢
        exact ⟨j, hj, by rw [keep j (fun e => hij e.symm)]; exact hjk, by omega⟩
      · exact ⟨p, p1, by rw [keep p d]; exact p2, p3⟩
  · by_cases c : q = i
    · subst c
      rw [up_same]
      have h1 := I.low M hM q hq
      rcases Nat.lt_or_ge (asked q) (x q (M q)) with d | d
      · omega
      · exfalso
        have e : x q (M q) = asked q := by omega
        have hMq : M q = k := by rw [← L.ax q (M q) hq (hM.lt q hq), e]; exact hik
        have hMj : M j ≠ k := fun e2 => hij (hM.inj q j hq hj (by rw [hMq, e2]))
        have h2 := I.low M hM j hj
        have hxj : x j k = asked j := by rw [← hjk]; exact L.xa j _ hj (I.room j hj)
        have h3 : x j (M j) ≠ x j k := fun e2 => hMj (by rw [← L.ax j (M j) hj (hM.lt j hj), e2, L.ax j k hj hk])
        refine hM.none j q hj hq ⟨?_, ?_⟩
        · rw [hMq]; omega
        · rw [hMq]; exact hy
    · rw [keep q c]; exact I.low M hM q hq

/-- whom each asks in the end -/
theorem RInv.stable (I : RInv n a x y asked) (L : Lists n a x) (h : ∀ i j, i < n → j < n → a i (asked i) = a j (asked j) → i = j) : Stable n x y (fun i => a i (asked i)) := by
  refine ⟨fun i hi => L.lt i _ hi (I.room i hi), h, fun i j hi hj ⟨h1, h2⟩ => ?_⟩
  have hj' := L.lt j _ hj (I.room j hj)
  rw [L.xa i _ hi (I.room i hi)] at h1
  obtain ⟨q, q1, q2, q3⟩ := I.held i (x i (a j (asked j))) hi h1
  rw [L.ax i _ hi hj'] at q2 q3
  have := h q j q1 hj q2
  subst this
  omega
/-- and it is what each has who asks one by one -/
theorem RInv.same (I : RInv n a x y asked) (L : Lists n a x) (h : ∀ i j, i < n → j < n → a i (asked i) = a j (asked j) → i = j) {asked' : Nat → Nat} {has : Nat → Int} (J : Inv n a x y asked' has []) {i : Nat} (hi : i < n) :
    a i (asked i) = outOf a asked' i := by
  have S := I.stable L h
  have h1 := J.best L S hi
  have h2 := I.low _ (J.stable L) i hi
  rw [L.xa i _ hi (I.room i hi)] at h1
  have e : x i (outOf a asked' i) = asked i := by omega
  rw [← L.ax i (outOf a asked' i) hi (J.hold L hi).2.1, e]
end WedPlain
