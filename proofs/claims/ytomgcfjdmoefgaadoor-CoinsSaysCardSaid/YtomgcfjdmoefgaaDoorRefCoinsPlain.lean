/- PLAIN LAW: the document's fewest coins, number by number; its best way (no program in sight). -/
import Derived.Test.YtomgcfjdmoefgaaDoorCoinsPlain
namespace Go.Proofs.YtomgcfjdmoefgaaDoor.CoinsPlain

def Reach (c : List Int) (n s i t : Nat) : Prop := ∃ s' j : Nat, ((s' < s ∧ j < c.length) ∨ (s' = s ∧ j < i)) ∧ F c s' = n ∧ ((s' : Nat) : Int) + c.getD j 0 = t
structure Mid (c : List Int) (sum n s i : Nat) (r : List Int) : Prop where
  len : r.length = sum + 1
  low : ∀ t, t ≤ sum → F c t ≤ n → r.getD t 0 = F c t
  mid : ∀ t, t ≤ sum → (n : Int) < F c t → Reach c n s i t → r.getD t 0 = n + 1
  out : ∀ t, t ≤ sum → (n : Int) < F c t → ¬ Reach c n s i t → r.getD t 0 = -1
theorem Mid.congr {c sum n s i s' i' r} (h : Mid c sum n s i r) (e : ∀ t, t ≤ sum → (Reach c n s i t ↔ Reach c n s' i' t)) : Mid c sum n s' i' r :=
  ⟨h.len, h.low, fun t ht hf hr => h.mid t ht hf ((e t ht).2 hr), fun t ht hf hr => h.out t ht hf fun c => hr ((e t ht).1 c)⟩
theorem Mid.start {c : List Int} (hc : OKc c) (sum : Nat) : Mid c sum 0 0 0 (0 :: List.replicate sum (-1)) := by
  refine ⟨by simp, fun t ht hf => ?_, fun t ht hf ⟨s', j, h, _⟩ => ?_, fun t ht hf _ => ?_⟩
  · by_cases e : t = 0
    · subst e; rfl
    · have := F_pos hc t (by omega); omega
  · omega
  · obtain ⟨k, rfl⟩ : ∃ k, t = k + 1 := ⟨t - 1, by
      have : t ≠ 0 := fun e => by subst e; rw [F_zero] at hf; omega
      omega⟩
    simp only [List.getD_cons_succ]
    rw [List.getD_eq_getElem?_getD, List.getElem?_replicate, if_pos (by omega)]; rfl
theorem Mid.read {c sum n s i r} (h : Mid c sum n s i r) (hs : s ≤ sum) : r.getD s 0 = n ↔ F c s = n := by
  rcases Int.lt_or_le n (F c s) with hf | hf
  · by_cases hr : Reach c n s i s
    · rw [h.mid s hs hf hr]; omega
    · rw [h.out s hs hf hr]; omega
  · rw [h.low s hs hf]
theorem Mid.skip {c sum n s i r} (h : Mid c sum n s i r) (e : F c s ≠ n ∨ i = c.length) (hi : i ≤ c.length) : Mid c sum n (s + 1) 0 r := by
  refine h.congr fun t _ => ⟨fun ⟨s', j, a, b, d⟩ => ⟨s', j, ?_, b, d⟩, fun ⟨s', j, a, b, d⟩ => ⟨s', j, ?_, b, d⟩⟩
  · rcases a with ⟨a1, a2⟩ | ⟨a1, a2⟩
    · exact .inl ⟨by omega, a2⟩
    · exact .inl ⟨by omega, by omega⟩
  · rcases a with ⟨a1, a2⟩ | ⟨a1, a2⟩
    · rcases Nat.lt_or_ge s' s with c1 | c1
      · exact .inl ⟨c1, a2⟩
      · obtain rfl : s' = s := by omega
        rcases e with e | e
        · exact absurd b e
        · exact .inr ⟨rfl, by omega⟩
    · omega
theorem Reach.succ {c : List Int} {n s i t : Nat} (hF : F c s = n) : Reach c n s (i + 1) t ↔ Reach c n s i t ∨ (s : Int) + c.getD i 0 = t := by
  constructor
  · rintro ⟨s', j, a, b, d⟩
    rcases a with a | ⟨a1, a2⟩
    · exact .inl ⟨s', j, .inl a, b, d⟩
    · rcases Nat.lt_or_ge j i with c1 | c1
      · exact .inl ⟨s', j, .inr ⟨a1, c1⟩, b, d⟩
      · obtain rfl : j = i := by omega
        subst a1
        exact .inr d
  · rintro (⟨s', j, a, b, d⟩ | d)
    · refine ⟨s', j, ?_, b, d⟩
      rcases a with a | ⟨a1, a2⟩
      · exact .inl a
      · exact .inr ⟨a1, by omega⟩
    · exact ⟨s, i, .inr ⟨rfl, by omega⟩, hF, d⟩
theorem Mid.put {c : List Int} (hc : OKc c) {sum n s i u : Nat} {r : List Int} (h : Mid c sum n s i r) (hF : F c s = n) (hi : i < c.length) (hu : (s : Int) + c.getD i 0 = u) (hus : u ≤ sum) (hr : r.getD u 0 < 0) : Mid c sum n s (i + 1) (r.set u ((n : Int) + 1)) := by
  have hx : c.getD i 0 ∈ c := by
    rw [List.getD_eq_getElem?_getD, List.getElem?_eq_getElem hi]; exact List.getElem_mem hi
  have hx1 := hc.pos _ hx
  have hFu : F c u ≤ n + 1 := by
    have := F_le_coin hc u _ hx (by omega)
    rw [show u - (c.getD i 0).toNat = s by omega] at this
    omega
  have hge : (n : Int) < F c u := by
    rcases Int.lt_or_le n (F c u) with a | a
    · exact a
    · have := h.low u hus a
      have := F_nonneg hc u
      omega
  have hset : ∀ t, (r.set u ((n : Int) + 1)).getD t 0 = if t = u then (n : Int) + 1 else r.getD t 0 := fun t => by
    rw [List.getD_eq_getElem?_getD, List.getElem?_set, List.getD_eq_getElem?_getD]
    by_cases e : t = u
    · subst e; rw [if_pos rfl, if_pos rfl, if_pos (by rw [h.len]; omega)]; rfl
    · rw [if_neg (fun c => e c.symm), if_neg e]
  refine ⟨by rw [List.length_set]; exact h.len, fun t ht hf => ?_, fun t ht hf hre => ?_, fun t ht hf hre => ?_⟩
  · rw [hset t]
    split
    · rename_i e; subst e; omega
    · exact h.low t ht hf
  · rw [hset t]
    split
    · rfl
    · rename_i e
      rcases (Reach.succ hF).1 hre with a | a
      · exact h.mid t ht hf a
      · omega
  · rw [hset t]
    split
    · rename_i e; subst e
      exact absurd ((Reach.succ hF).2 (.inr hu)) hre
    · exact h.out t ht hf fun a => hre ((Reach.succ hF).2 (.inl a))
theorem Mid.pass {c : List Int} {sum n s i : Nat} {r : List Int} (h : Mid c sum n s i r) (hF : F c s = n) (hp : ∀ u : Nat, (s : Int) + c.getD i 0 = u → u ≤ sum → 0 ≤ r.getD u 0) : Mid c sum n s (i + 1) r := by
  refine ⟨h.len, h.low, fun t ht hf hre => ?_, fun t ht hf hre => h.out t ht hf fun a => hre ((Reach.succ hF).2 (.inl a))⟩
  rcases (Reach.succ hF).1 hre with a | a
  · exact h.mid t ht hf a
  · have := hp t a ht
    by_cases hre2 : Reach c n s i t
    · exact h.mid t ht hf hre2
    · have := h.out t ht hf hre2; omega
theorem Mid.next {c : List Int} (hc : OKc c) {sum n : Nat} {r : List Int} (h : Mid c sum n (sum + 1) 0 r) : Mid c sum (n + 1) 0 0 r := by
  have key : ∀ t, t ≤ sum → (n : Int) < F c t → (Reach c n (sum + 1) 0 t ↔ F c t = n + 1) := fun t ht hf => by
    constructor
    · rintro ⟨s', j, a, b, d⟩
      rcases a with ⟨a1, a2⟩ | ⟨a1, a2⟩
      · have hx : c.getD j 0 ∈ c := by
          rw [List.getD_eq_getElem?_getD, List.getElem?_eq_getElem a2]; exact List.getElem_mem a2
        have hx1 := hc.pos _ hx
        have := F_le_coin hc t _ hx (by omega)
        rw [show t - (c.getD j 0).toNat = s' by omega] at this
        omega
      · omega
    · intro e
      have ht0 : 0 < t := by
        rcases Nat.eq_zero_or_pos t with c1 | c1
        · subst c1; rw [F_zero] at hf; omega
        · exact c1
      obtain ⟨x, hx, hxs, hF⟩ := F_reach hc t ht0
      have hx1 := hc.pos x hx
      obtain ⟨j, hj, hjx⟩ := List.mem_iff_getElem.1 hx
      refine ⟨t - x.toNat, j, .inl ⟨by omega, hj⟩, by omega, ?_⟩
      rw [List.getD_eq_getElem?_getD, List.getElem?_eq_getElem hj, Option.getD_some, hjx]
      omega
  have no : ∀ t, ¬ Reach c (n + 1) 0 0 t := fun t ⟨s', j, a, _⟩ => by omega
  refine ⟨h.len, fun t ht hf => ?_, fun t ht hf hre => absurd hre (no t), fun t ht hf _ => ?_⟩
  · rcases Int.lt_or_le n (F c t) with a | a
    · have e : F c t = n + 1 := by omega
      rw [h.mid t ht a ((key t ht a).2 e), e]
    · exact h.low t ht a
  · exact h.out t ht (by omega) fun a => by have := (key t ht (by omega)).1 a; omega
theorem Mid.done {c : List Int} {sum : Nat} {r : List Int} (h : Mid c sum (sum + 1) 0 0 r) : r = fewL c sum := by
  apply List.ext_getElem (by rw [h.len, fewL_length])
  intro t h1 h2
  have hts : t ≤ sum := by rw [h.len] at h1; omega
  have e1 := h.low t hts (by have := F_le_self c t; omega)
  have e2 := fewL_getD c sum t hts
  rw [List.getD_eq_getElem?_getD, List.getElem?_eq_getElem h1] at e1
  rw [List.getD_eq_getElem?_getD, List.getElem?_eq_getElem h2] at e2
  simp only [Option.getD_some] at e1 e2
  rw [e1, e2]
/-- no more of a coin than `uses` tells is best -/
theorem uses_most {c : List Int} (hc : OKc c) {x : Int} (hx : x ∈ c) {s k : Nat} (hk : k * x.toNat ≤ s) (h : F c (s - k * x.toNat) + k = F c s) : k ≤ uses c x s := by
  have hx1 := hc.pos x hx
  obtain ⟨a, b, d⟩ := uses_spec (c := c) hx1 s
  generalize uses c x s = u at *
  rcases Nat.lt_or_ge u k with hlt | hge
  · exfalso
    obtain ⟨e, rfl⟩ : ∃ e, k = u + (e + 1) := ⟨k - u - 1, by omega⟩
    have e1 : (u + (e + 1)) * x.toNat = u * x.toNat + (e * x.toNat + x.toNat) := by rw [Nat.add_mul, Nat.add_mul, Nat.one_mul]
    rw [e1] at hk h
    have hle : x ≤ ((s - u * x.toNat : Nat) : Int) := by omega
    refine d ⟨hle, ?_⟩
    have f1 := F_le_many hc x hx e (s - u * x.toNat - x.toNat) (by omega)
    have e2 : s - u * x.toNat - x.toNat - e * x.toNat = s - (u * x.toNat + (e * x.toNat + x.toNat)) := by omega
    rw [e2] at f1
    have f2 := F_le_coin hc (s - u * x.toNat) x hx hle
    omega
  · exact hge
end Go.Proofs.YtomgcfjdmoefgaaDoor.CoinsPlain
