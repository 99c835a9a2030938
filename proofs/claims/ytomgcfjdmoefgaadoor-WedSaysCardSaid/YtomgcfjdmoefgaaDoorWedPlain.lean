/- PLAIN LAW: Gale and Shapley (no program in sight). -/
namespace WedPlain

/-- no room for one more -/
theorem pigeon : ∀ (n : Nat) (f : Nat → Nat), (∀ k, k < n + 1 → f k < n) → (∀ j k, j < n + 1 → k < n + 1 → f j = f k → j = k) → False := by
  intro n
  induction n with
  | zero => intro f h _; have := h 0 (by omega); omega
  | succ n ih =>
    intro f h hi
    refine ih (fun k => if f k = n then f (n + 1) else f k) (fun k hk => ?_) (fun j k hj hk e => ?_)
    · have h1 := h k (by omega)
      have h2 := h (n + 1) (by omega)
      show (if f k = n then f (n + 1) else f k) < n
      split
      · rename_i e
        have : f (n + 1) ≠ n := fun c => by have := hi k (n + 1) (by omega) (by omega) (by omega); omega
        omega
      · omega
    · have e : (if f j = n then f (n + 1) else f j) = (if f k = n then f (n + 1) else f k) := e
      split at e <;> split at e
      · exact hi j k (by omega) (by omega) (by omega)
      · have := hi (n + 1) k (by omega) (by omega) e; omega
      · have := hi j (n + 1) (by omega) (by omega) e; omega
      · exact hi j k (by omega) (by omega) e
theorem pigeon_miss (n : Nat) (f : Nat → Nat) (i : Nat) (hin : i < n) (h : ∀ k, k < n → f k < n ∧ f k ≠ i) (hi : ∀ j k, j < n → k < n → f j = f k → j = k) : False := by
  obtain ⟨m, rfl⟩ : ∃ m, n = m + 1 := ⟨n - 1, by omega⟩
  refine pigeon m (fun k => if f k = m then i else f k) (fun k hk => ?_) (fun j k hj hk e => ?_)
  · have := h k hk
    show (if f k = m then i else f k) < m
    split
    · rename_i e
      have : i ≠ m := fun c => this.2 (by omega)
      omega
    · omega
  · have e : (if f j = m then i else f j) = (if f k = m then i else f k) := e
    have h1 := h j hj
    have h2 := h k hk
    split at e <;> split at e
    · exact hi j k hj hk (by omega)
    · exact absurd e.symm h2.2
    · exact absurd e h1.2
    · exact hi j k hj hk e

/-- lists of all, and the places in them -/
structure Lists (n : Nat) (a x : Nat → Nat → Nat) : Prop where
  lt : ∀ i t, i < n → t < n → a i t < n
  xlt : ∀ i k, i < n → k < n → x i k < n
  xa : ∀ i t, i < n → t < n → x i (a i t) = t
  ax : ∀ i k, i < n → k < n → a i (x i k) = k

structure Stable (n : Nat) (x y : Nat → Nat → Nat) (M : Nat → Nat) : Prop where
  lt : ∀ i, i < n → M i < n
  inj : ∀ i j, i < n → j < n → M i = M j → i = j
  none : ∀ i j, i < n → j < n → ¬ (x i (M j) < x i (M i) ∧ y (M j) i < y (M j) j)

structure Inv (n : Nat) (a x y : Nat → Nat → Nat) (asked : Nat → Nat) (has : Nat → Int) (free : List Nat) : Prop where
  nodup : free.Nodup
  le : ∀ i, i < n → asked i ≤ n
  free_ : ∀ i ∈ free, i < n ∧ ∀ k, k < n → has k ≠ (i : Nat)
  held : ∀ i, i < n → i ∉ free → ∃ k, k < n ∧ has k = (i : Nat)
  one : ∀ k, k < n → has k = -1 ∨ ∃ i : Nat, has k = i ∧ i < n ∧ 0 < asked i ∧ a i (asked i - 1) = k
  better : ∀ i t, i < n → t < asked i → ∃ j : Nat, has (a i t) = j ∧ y (a i t) j ≤ y (a i t) i
  opt : ∀ M, Stable n x y M → ∀ i t, i < n → t < asked i → has (a i t) ≠ (i : Nat) → M i ≠ a i t

theorem Inv.start (n : Nat) (a x y : Nat → Nat → Nat) (has : Nat → Int) (free : List Nat) (hp : free.Perm (List.range n)) (hh : ∀ k, k < n → has k = -1) : Inv n a x y (fun _ => 0) has free :=
  ⟨hp.nodup_iff.2 List.nodup_range, fun i _ => Nat.zero_le _, fun i hi => ⟨by simpa using hp.mem_iff.1 hi, fun k hk => by rw [hh k hk]; omega⟩,
    fun i hi hn => absurd (hp.mem_iff.2 (by simpa using hi)) hn, fun k hk => .inl (hh k hk), fun i t _ ht => absurd ht (Nat.not_lt_zero _), fun M _ i t _ ht => absurd ht (Nat.not_lt_zero _)⟩

variable {n : Nat} {a x y b : Nat → Nat → Nat} {asked : Nat → Nat} {has : Nat → Int} {free : List Nat}

/-- who holds one holds one alone -/
theorem Inv.only (I : Inv n a x y asked has free) {k k' : Nat} {i : Nat} (hk : k < n) (hk' : k' < n) (h : has k = (i : Nat)) (h' : has k' = (i : Nat)) : k = k' := by
  rcases I.one k hk with e | ⟨j, e, _, _, e2⟩
  · omega
  · rcases I.one k' hk' with e' | ⟨j', e', _, _, e2'⟩
    · omega
    · have h1 : j = i := by omega
      have h2 : j' = i := by omega
      subst h1; subst h2
      rw [← e2, ← e2']
/-- whom it is free has someone left to ask -/
theorem Inv.room (I : Inv n a x y asked has free) (L : Lists n a x) {i : Nat} (hi : i ∈ free) : asked i < n := by
  have hf := I.free_ i hi
  rcases Nat.lt_or_ge (asked i) n with h | h
  · exact h
  · exfalso
    have key : ∀ k, k < n → ∃ j : Nat, has k = j ∧ j < n := fun k hk => by
      obtain ⟨j, hj, _⟩ := I.better i (x i k) hf.1 (by have := L.xlt i k hf.1 hk; omega)
      rw [L.ax i k hf.1 hk] at hj
      rcases I.one k hk with e | ⟨j', e, hl, _⟩
      · omega
      · exact ⟨j', e, hl⟩
    refine pigeon_miss n (fun k => (has k).toNat) i hf.1 (fun k hk => ?_) (fun j k hj hk e => ?_)
    · obtain ⟨j, e, hl⟩ := key k hk
      have e' : (has k).toNat = j := by rw [e]; simp
      show (has k).toNat < n ∧ (has k).toNat ≠ i
      rw [e']
      exact ⟨hl, fun c => hf.2 k hk (by rw [e, c])⟩
    · obtain ⟨j1, e1, _⟩ := key j hj
      obtain ⟨j2, e2, _⟩ := key k hk
      have e : (has j).toNat = (has k).toNat := e
      rw [e1, e2] at e
      have : j1 = j2 := by simpa using e
      subst this
      exact I.only hj hk e1 e2

def up (f : Nat → Nat) (i v : Nat) : Nat → Nat := fun j => if j = i then v else f j
def upI (f : Nat → Int) (i : Nat) (v : Int) : Nat → Int := fun j => if j = i then v else f j
theorem up_same (f : Nat → Nat) (i v : Nat) : up f i v i = v := by simp [up]
theorem up_other (f : Nat → Nat) (i v j : Nat) (h : j ≠ i) : up f i v j = f j := by simp [up, h]
theorem upI_same (f : Nat → Int) (i : Nat) (v : Int) : upI f i v i = v := by simp [upI]
theorem upI_other (f : Nat → Int) (i : Nat) (v : Int) (j : Nat) (h : j ≠ i) : upI f i v j = f j := by simp [upI, h]

/-- k takes i (it had none, or one whom it likes less) -/
theorem Inv.take (I : Inv n a x y asked has free) (L : Lists n a x) {i : Nat} {rest free' : List Nat} (hfr : free.Perm (i :: rest)) {k : Nat} (hk : a i (asked i) = k)
    (hold : (has k = -1 ∧ free' = rest) ∨ ∃ j : Nat, has k = j ∧ y k i < y k j ∧ free'.Perm (j :: rest)) : Inv n a x y (up asked i (asked i + 1)) (upI has k (i : Nat)) free' := by
  have hif : i ∈ free := hfr.mem_iff.2 (by simp)
  have hin := (I.free_ i hif).1
  have hroom := I.room L hif
  have hkn : k < n := by rw [← hk]; exact L.lt i _ hin hroom
  have hnd : (i :: rest).Nodup := hfr.nodup_iff.1 I.nodup
  have hnot : ∀ k', k' < n → has k' ≠ (i : Nat) := (I.free_ i hif).2
  have hir : i ∉ rest := (List.nodup_cons.1 hnd).1
  have hrest : ∀ j ∈ rest, j ∈ free := fun j hj => hfr.mem_iff.2 (by simp [hj])
  -- who was left
  have hj : ∀ j : Nat, has k = (j : Nat) → j < n ∧ j ≠ i ∧ j ∉ free ∧ 0 < asked j ∧ a j (asked j - 1) = k := fun j e => by
    rcases I.one k hkn with e1 | ⟨j', e1, h1, h2, h3⟩
    · omega
    · have : j' = j := by omega
      subst this
      exact ⟨h1, fun c => hnot k hkn (by rw [e, c]), fun c => (I.free_ _ c).2 k hkn e, h2, h3⟩
  have hmem : ∀ j, j ∈ free' ↔ j ∈ rest ∨ has k = (j : Nat) := fun j => by
    rcases hold with ⟨e, rfl⟩ | ⟨j', e, _, hp⟩
    · exact ⟨fun h => .inl h, fun h => by rcases h with h | h; exact h; omega⟩
    · rw [hp.mem_iff, List.mem_cons]
      constructor
      · rintro (rfl | h)
        · exact .inr e
        · exact .inl h
      · rintro (h | h)
        · exact .inr h
        · exact .inl (by omega)
  refine ⟨?_, fun j hjn => ?_, fun j hjf => ?_, fun j hjn hjf => ?_, fun k' hk' => ?_, fun j t hjn ht => ?_, fun M hM j t hjn ht hne => ?_⟩
  · rcases hold with ⟨_, rfl⟩ | ⟨j, e, _, hp⟩
    · exact (List.nodup_cons.1 hnd).2
    · rw [hp.nodup_iff, List.nodup_cons]
      exact ⟨fun c => (hj j e).2.2.1 (hrest j c), (List.nodup_cons.1 hnd).2⟩
  · by_cases c : j = i
    · subst c; rw [up_same]; omega
    · rw [up_other _ _ _ _ c]; exact I.le j hjn
  · have hji : j ≠ i := by
      rcases (hmem j).1 hjf with h | h
      · exact fun c => hir (c ▸ h)
      · exact (hj j h).2.1
    have hjn : j < n := by
      rcases (hmem j).1 hjf with h | h
      · exact (I.free_ j (hrest j h)).1
      · exact (hj j h).1
    refine ⟨hjn, fun k' hk' e => ?_⟩
    by_cases c : k' = k
    · subst c; rw [upI_same] at e; omega
    · rw [upI_other _ _ _ _ c] at e
      rcases (hmem j).1 hjf with h | h
      · exact (I.free_ j (hrest j h)).2 k' hk' e
      · exact c (I.only hk' hkn e h)
  · by_cases c : j = i
    · subst c; exact ⟨k, hkn, upI_same _ _ _⟩
    · have hjf' : j ∉ free := fun h => by
        have := hfr.mem_iff.1 h
        rcases List.mem_cons.1 this with h | h
        · exact c h
        · exact hjf ((hmem j).2 (.inl h))
      obtain ⟨k', hk', e⟩ := I.held j hjn hjf'
      by_cases c' : k' = k
      · subst c'; exact absurd ((hmem j).2 (.inr e)) hjf
      · exact ⟨k', hk', by rw [upI_other _ _ _ _ c']; exact e⟩
  · by_cases c : k' = k
    · subst c
      exact .inr ⟨i, upI_same _ _ _, hin, by rw [up_same]; omega, by rw [up_same]; exact hk⟩
    · rw [upI_other _ _ _ _ c]
      rcases I.one k' hk' with e | ⟨j, e, h1, h2, h3⟩
      · exact .inl e
      · have : j ≠ i := fun c2 => hnot k' hk' (by rw [e, c2])
        exact .inr ⟨j, e, h1, by rw [up_other _ _ _ _ this]; exact h2, by rw [up_other _ _ _ _ this]; exact h3⟩
  · -- k's new one is no worse
    have old : ∀ j t, j < n → t < asked j → ∃ j' : Nat, upI has k (i : Nat) (a j t) = j' ∧ y (a j t) j' ≤ y (a j t) j := fun j t hjn ht => by
      obtain ⟨j', e, hle⟩ := I.better j t hjn ht
      by_cases c : a j t = k
      · rw [c] at e hle ⊢
        refine ⟨i, upI_same _ _ _, ?_⟩
        rcases hold with ⟨e1, _⟩ | ⟨j2, e1, h2, _⟩
        · omega
        · have : j2 = j' := by omega
          subst this; omega
      · exact ⟨j', by rw [upI_other _ _ _ _ c]; exact e, hle⟩
    by_cases c : j = i
    · subst c
      rw [up_same] at ht
      rcases Nat.lt_or_ge t (asked j) with h | h
      · exact old j t hjn h
      · have : t = asked j := by omega
        subst this
        rw [hk]
        exact ⟨j, upI_same _ _ _, Nat.le_refl _⟩
    · rw [up_other _ _ _ _ c] at ht
      exact old j t hjn ht
  · by_cases c : j = i
    · subst c
      rw [up_same] at ht
      rcases Nat.lt_or_ge t (asked j) with h | h
      · exact I.opt M hM j t hjn h (hnot _ (L.lt j t hjn (by omega)))
      · have : t = asked j := by omega
        subst this
        rw [hk, upI_same] at hne
        exact absurd rfl hne
    · rw [up_other _ _ _ _ c] at ht
      by_cases c2 : a j t = k
      · by_cases c3 : has k = (j : Nat)
        · -- j is left for i
          intro hMj
          rcases hold with ⟨e1, _⟩ | ⟨j2, e1, h2, _⟩
          · omega
          · have : j2 = j := by omega
            subst this
            rw [c2] at hMj
            have hMi : M i ≠ k := fun e => c (hM.inj _ _ hjn hin (by rw [hMj, e]))
            have h4 : asked i < x i (M i) := by
              have hlt := hM.lt i hin
              have hxl := L.xlt i (M i) hin hlt
              rcases Nat.lt_trichotomy (x i (M i)) (asked i) with h | h | h
              · have := I.opt M hM i (x i (M i)) hin h (hnot _ (L.lt _ _ hin hxl))
                rw [L.ax i _ hin hlt] at this
                exact absurd rfl this
              · rw [← h, L.ax i _ hin hlt] at hk; exact absurd hk hMi
              · exact h
            refine hM.none i j2 hin hjn ⟨?_, by rw [hMj]; exact h2⟩
            rw [hMj, ← hk, L.xa i _ hin hroom]
            exact h4
        · exact I.opt M hM j t hjn ht (by rw [c2]; exact c3)
      · rw [upI_other _ _ _ _ c2] at hne
        exact I.opt M hM j t hjn ht hne

/-- k keeps whom it has -/
theorem Inv.keep (I : Inv n a x y asked has free) (L : Lists n a x) {i : Nat} {rest free' : List Nat} (hfr : free.Perm (i :: rest)) {k j : Nat} (hk : a i (asked i) = k)
    (hj : has k = (j : Nat)) (hle : y k j ≤ y k i) (hy : ∀ p q, p < n → q < n → y k p = y k q → p = q) (hf' : free'.Perm (i :: rest)) : Inv n a x y (up asked i (asked i + 1)) has free' := by
  have hif : i ∈ free := hfr.mem_iff.2 (by simp)
  have hin := (I.free_ i hif).1
  have hroom := I.room L hif
  have hkn : k < n := by rw [← hk]; exact L.lt i _ hin hroom
  have hnot : ∀ k', k' < n → has k' ≠ (i : Nat) := (I.free_ i hif).2
  have hmem : ∀ q, q ∈ free' ↔ q ∈ free := fun q => (hf'.trans hfr.symm).mem_iff
  have hjj : j < n ∧ 0 < asked j ∧ a j (asked j - 1) = k := by
    rcases I.one k hkn with e1 | ⟨j', e1, h1, h2, h3⟩
    · omega
    · have : j' = j := by omega
      subst this
      exact ⟨h1, h2, h3⟩
  have hji : j ≠ i := fun c => hnot k hkn (by rw [hj, c])
  refine ⟨(hf'.trans hfr.symm).nodup_iff.2 I.nodup, fun q hq => ?_, fun q hq => I.free_ q ((hmem q).1 hq), fun q hq hn => I.held q hq fun c => hn ((hmem q).2 c), fun k' hk' => ?_, fun q t hq ht => ?_, fun M hM q t hq ht hne => ?_⟩
  · by_cases c : q = i
    · subst c; rw [up_same]; omega
    · rw [up_other _ _ _ _ c]; exact I.le q hq
  · rcases I.one k' hk' with e | ⟨q, e, h1, h2, h3⟩
    · exact .inl e
    · have : q ≠ i := fun c2 => hnot k' hk' (by rw [e, c2])
      exact .inr ⟨q, e, h1, by rw [up_other _ _ _ _ this]; exact h2, by rw [up_other _ _ _ _ this]; exact h3⟩
  · by_cases c : q = i
    · subst c
      rw [up_same] at ht
      rcases Nat.lt_or_ge t (asked q) with h | h
      · exact I.better q t hq h
      · have : t = asked q := by omega
        subst this
        rw [hk]
        exact ⟨j, hj, hle⟩
    · rw [up_other _ _ _ _ c] at ht
      exact I.better q t hq ht
  · by_cases c : q = i
    · subst c
      rw [up_same] at ht
      rcases Nat.lt_or_ge t (asked q) with h | h
      · exact I.opt M hM q t hq h hne
      · have : t = asked q := by omega
        subst this
        rw [hk]
        intro hMi
        have hMj : M j ≠ k := fun e => hji (hM.inj _ _ hjj.1 hq (by rw [hMi, e]))
        have hlt := hM.lt j hjj.1
        have hxl := L.xlt j (M j) hjj.1 hlt
        have hal := I.le j hjj.1
        have h4 : asked j - 1 < x j (M j) := by
          rcases Nat.lt_trichotomy (x j (M j)) (asked j - 1) with h | h | h
          · have := I.opt M hM j (x j (M j)) hjj.1 (by omega) (fun e => by
              rw [L.ax j _ hjj.1 hlt] at e
              exact hMj (I.only hlt hkn e hj))
            rw [L.ax j _ hjj.1 hlt] at this
            exact absurd rfl this
          · have := hjj.2.2
            rw [← h, L.ax j _ hjj.1 hlt] at this; exact absurd this hMj
          · exact h
        have hne' : y k j ≠ y k q := fun e => hji (hy j q hjj.1 hq e)
        refine hM.none j q hjj.1 hq ⟨?_, by rw [hMi]; omega⟩
        rw [hMi, ← hjj.2.2, L.xa j _ hjj.1 (by omega)]
        exact h4
    · rw [up_other _ _ _ _ c] at ht
      exact I.opt M hM q t hq ht hne

/-- what is told in the end -/
def outOf (a : Nat → Nat → Nat) (asked : Nat → Nat) (i : Nat) : Nat := a i (asked i - 1)
theorem Inv.out (I : Inv n a x y asked has []) {k i : Nat} (hk : k < n) (h : has k = (i : Nat)) : outOf a asked i = k := by
  rcases I.one k hk with e | ⟨j, e, _, _, e2⟩
  · omega
  · have : j = i := by omega
    subst this; exact e2
theorem Inv.hold (I : Inv n a x y asked has []) (L : Lists n a x) {i : Nat} (hi : i < n) : 0 < asked i ∧ outOf a asked i < n ∧ has (outOf a asked i) = (i : Nat) ∧ x i (outOf a asked i) = asked i - 1 := by
  obtain ⟨k, hk, e⟩ := I.held i hi (by simp)
  have h1 := I.out hk e
  rcases I.one k hk with e' | ⟨j, e', _, h2, e2⟩
  · omega
  · have : j = i := by omega
    subst this
    have hle := I.le j hi
    refine ⟨h2, by rw [h1]; exact hk, by rw [h1]; exact e, ?_⟩
    exact L.xa j _ hi (by omega)
theorem Inv.stable (I : Inv n a x y asked has []) (L : Lists n a x) : Stable n x y (outOf a asked) := by
  refine ⟨fun i hi => (I.hold L hi).2.1, fun i j hi hj e => ?_, fun i j hi hj ⟨h1, h2⟩ => ?_⟩
  · have h1 := (I.hold L hi).2.2.1
    have h2 := (I.hold L hj).2.2.1
    rw [e] at h1; omega
  · obtain ⟨p1, p2, p3, p4⟩ := I.hold L hi
    obtain ⟨q1, q2, q3, q4⟩ := I.hold L hj
    rw [p4] at h1
    obtain ⟨j', e, hle⟩ := I.better i (x i (outOf a asked j)) hi (by omega)
    rw [L.ax i _ hi q2] at e hle
    have : j' = j := by omega
    subst this; omega
/-- who asks fares best -/
theorem Inv.best (I : Inv n a x y asked has []) (L : Lists n a x) {M : Nat → Nat} (hM : Stable n x y M) {i : Nat} (hi : i < n) : x i (outOf a asked i) ≤ x i (M i) := by
  obtain ⟨p1, p2, p3, p4⟩ := I.hold L hi
  rw [p4]
  rcases Nat.lt_or_ge (x i (M i)) (asked i - 1) with h | h
  · have hlt := hM.lt i hi
    have := I.opt M hM i (x i (M i)) hi (by omega) (fun e => by
      rw [L.ax i _ hi hlt] at e
      have := I.out hlt e
      rw [← this, p4] at h; omega)
    rw [L.ax i _ hi hlt] at this
    exact absurd rfl this
  · exact h
/-- who is asked fares worst -/
theorem Inv.worst (I : Inv n a x y asked has []) (L : Lists n a x) {M : Nat → Nat} (hM : Stable n x y M) {i j : Nat} (hi : i < n) (hj : j < n) (e : outOf a asked i = M j) : y (M j) j ≤ y (M j) i := by
  rcases Nat.lt_or_ge (y (M j) i) (y (M j) j) with h | h
  · exfalso
    have hb := I.best L hM hi
    rw [e] at hb
    by_cases c : M i = M j
    · have := hM.inj i j hi hj c
      subst this; omega
    · have h3 : x i (M j) ≠ x i (M i) := fun e2 => c (by
        have h4 := L.ax i (M i) hi (hM.lt i hi)
        have h5 := L.ax i (M j) hi (hM.lt j hj)
        rw [← h4, ← h5, e2])
      exact hM.none i j hi hj ⟨by omega, h⟩
  · exact h
end WedPlain
