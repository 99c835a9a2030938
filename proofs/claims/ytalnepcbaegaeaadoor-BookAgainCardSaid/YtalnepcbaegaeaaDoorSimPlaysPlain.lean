/- PLAIN: what is planned as a list in the order of the planning, beside the one by time (no program in sight). -/
import Derived.Test.YtalnepcbaegaeaaDoorSimQ
set_option linter.unusedVariables false
set_option linter.unusedSimpArgs false
namespace SimPlain

/-- a list in the order of the planning, and what is planned by time -/
structure Two (l q : List Ev) (seq : Int) : Prop where
  perm : q.Perm l
  sorted : q.Pairwise Lt
  up : l.Pairwise fun a b => a.s < b.s
  top : ∀ e ∈ l, e.s ≤ seq
theorem Two.zero : Two [] [] 0 := ⟨List.Perm.refl _, List.Pairwise.nil, List.Pairwise.nil, by simp⟩
theorem Two.len {l q : List Ev} {seq : Int} (h : Two l q seq) : q.length = l.length := h.perm.length_eq
/-- of the least time the one that stands first -/
structure IsFirst (l : List Ev) (k : Nat) : Prop where
  lt : k < l.length
  least : ∀ j, j < l.length → (l.getD k e0).t ≤ (l.getD j e0).t
  first : ∀ j, j < k → (l.getD k e0).t < (l.getD j e0).t
theorem at_getD {l : List Ev} {k : Nat} (h : k < l.length) : l.getD k e0 = l[k] := by rw [List.getD_eq_getElem?_getD, List.getElem?_eq_getElem h]; rfl
theorem Two.first {l q : List Ev} {seq : Int} (h : Two l q seq) {k : Nat} (hk : IsFirst l k) : ∃ q', q = l.getD k e0 :: q' ∧ Two (l.eraseIdx k) q' seq := by
  have hl := hk.lt
  have hx : l.getD k e0 ∈ l := by rw [at_getD hl]; exact List.getElem_mem hl
  have hless : ∀ e ∈ l, e ≠ l.getD k e0 → Lt (l.getD k e0) e := fun e he hne => by
    obtain ⟨j, hj, rfl⟩ := List.mem_iff_getElem.1 he
    have h1 := hk.least j hj
    rw [at_getD hj] at h1
    rcases Nat.lt_trichotomy j k with c | c | c
    · have h2 := hk.first j c
      rw [at_getD hj] at h2
      exact .inl h2
    · subst c; exact absurd (at_getD hj).symm hne
    · have h2 := List.pairwise_iff_getElem.1 h.up k j hl hj c
      rw [← at_getD hl] at h2
      unfold Lt
      omega
  rcases q with _ | ⟨y, q'⟩
  · have := h.len; simp at this; omega
  have hs := List.pairwise_cons.1 h.sorted
  have hyx : y = l.getD k e0 := by
    rcases Classical.em (y = l.getD k e0) with c | c
    · exact c
    · exfalso
      have h1 := hless y (h.perm.mem_iff.1 (by simp)) c
      have h2 := h.perm.mem_iff.2 hx
      rcases List.mem_cons.1 h2 with d | d
      · exact c d.symm
      · exact Lt.irrefl _ ((hs.1 _ d).trans h1)
  subst hyx
  refine ⟨q', rfl, ?_, hs.2, h.up.sublist (List.eraseIdx_sublist _ _), fun e he => h.top e ((List.eraseIdx_sublist _ _).mem he)⟩
  have hp : (l.getD k e0 :: l.eraseIdx k).Perm l := by
    rw [List.eraseIdx_eq_take_drop_succ]
    have e : l = l.take k ++ l.getD k e0 :: l.drop (k + 1) := by rw [at_getD hl, ← List.drop_eq_getElem_cons hl, List.take_append_drop]
    have := (List.perm_middle (l₁ := l.take k) (a := l.getD k e0) (l₂ := l.drop (k + 1))).symm
    rw [← e] at this
    exact this
  exact (h.perm.trans hp.symm).cons_inv
theorem without_eq (l : List Ev) (k : Nat) : l.take k ++ l.drop (k + 1) = l.eraseIdx k := (List.eraseIdx_eq_take_drop_succ l k).symm
theorem Two.filter {l q : List Ev} {seq : Int} (h : Two l q seq) (p : Ev → Bool) : Two (l.filter p) (q.filter p) seq :=
  ⟨h.perm.filter p, h.sorted.filter p, h.up.filter p, fun e he => h.top e (List.mem_filter.1 he).1⟩
theorem Two.plan {l q : List Ev} {seq : Int} (h : Two l q seq) (t id : Int) : Two (l ++ [⟨t, id, seq + 1⟩]) (ins ⟨t, id, seq + 1⟩ q) (seq + 1) := by
  refine ⟨(ins_perm _ _).trans ((h.perm.cons _).trans (List.perm_append_singleton _ _).symm), ins_sorted h.sorted fun x hx => ?_, List.pairwise_append.2 ⟨h.up, by simp, fun a ha b hb => ?_⟩, fun e he => ?_⟩
  · have := h.top x (h.perm.mem_iff.1 hx)
    show x.s < seq + 1
    omega
  · rw [List.mem_singleton] at hb
    subst hb
    have := h.top a ha
    show a.s < seq + 1
    omega
  · rcases List.mem_append.1 he with c | c
    · have := h.top e c; omega
    · rw [List.mem_singleton] at c
      subst c
      show seq + 1 ≤ seq + 1
      omega
/-- dropping from behind: what is left when k are still to be looked at -/
def dropAt (p : Ev → Bool) (l : List Ev) (k : Nat) : List Ev := l.take k ++ (l.drop k).filter p
theorem dropAt_all (p : Ev → Bool) (l : List Ev) : dropAt p l l.length = l := by unfold dropAt; simp
theorem dropAt_zero (p : Ev → Bool) (l : List Ev) : dropAt p l 0 = l.filter p := by unfold dropAt; simp
theorem dropAt_get (p : Ev → Bool) {l : List Ev} {k : Nat} (h : k < l.length) : (dropAt p l (k + 1)).getD k e0 = l.getD k e0 ∧ k < (dropAt p l (k + 1)).length := by
  have h1 : k < (l.take (k + 1)).length := by rw [List.length_take]; omega
  refine ⟨?_, by unfold dropAt; rw [List.length_append]; omega⟩
  unfold dropAt
  rw [List.getD_eq_getElem?_getD, List.getElem?_append_left h1, List.getElem?_take_of_lt (by omega), ← List.getD_eq_getElem?_getD]
theorem drop_consE {l : List Ev} {k : Nat} (h : k < l.length) : l.drop k = l.getD k e0 :: l.drop (k + 1) := by
  rw [List.drop_eq_getElem_cons h, at_getD h]
theorem dropAt_keep {p : Ev → Bool} {l : List Ev} {k : Nat} (h : k < l.length) (hp : p (l.getD k e0) = true) : dropAt p l k = dropAt p l (k + 1) := by
  unfold dropAt
  rw [drop_consE h, List.filter_cons, if_pos hp, List.take_add_one, List.append_assoc, List.getElem?_eq_getElem h, at_getD h]; rfl
theorem dropAt_drop {p : Ev → Bool} {l : List Ev} {k : Nat} (h : k < l.length) (hp : p (l.getD k e0) = false) : dropAt p l k = (dropAt p l (k + 1)).eraseIdx k := by
  have h1 : (l.take (k + 1)).length = k + 1 := by rw [List.length_take]; omega
  have h2 : (l.take (k + 1)).drop (k + 1) = [] := List.drop_of_length_le (by rw [h1]; exact Nat.le_refl _)
  have h3 : (l.take (k + 1)).take k = l.take k := by rw [List.take_take, Nat.min_eq_left (by omega)]
  unfold dropAt
  rw [drop_consE h, List.filter_cons, if_neg (by rw [hp]; decide), ← without_eq, List.take_append_of_le_length (by omega), List.drop_append_of_le_length (by omega), h2, h3]
  rfl
end SimPlain
