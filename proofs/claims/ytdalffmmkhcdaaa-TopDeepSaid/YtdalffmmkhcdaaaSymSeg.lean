/- PLAIN LAW: stretches of a list that are sorted, and what a turn within one leaves of the others (no program in sight). -/
import Derived.Test.YtdalffmmkhcdaaaSymPlain
set_option linter.unusedVariables false
set_option linter.unusedSimpArgs false
namespace SymPlain
variable {α : Type} {R : α → α → Prop}

/-- the stretch from s up to e is the like stretch of the first list, sorted -/
structure Seg (R : α → α → Prop) (l0 l : List α) (s e : Nat) : Prop where
  perm : ((l.drop s).take (e - s)).Perm ((l0.drop s).take (e - s))
  sorted : ((l.drop s).take (e - s)).Pairwise R
theorem Seg.none {l0 l : List α} {s e : Nat} (h : e ≤ s ∨ l.length ≤ s) (hl : l.length = l0.length) : Seg R l0 l s e := by
  have e1 : ∀ k : List α, k.length = l.length → (k.drop s).take (e - s) = [] := fun k hk => by
    apply List.eq_nil_of_length_eq_zero
    rw [List.length_take, List.length_drop]; omega
  exact ⟨by rw [e1 l rfl, e1 l0 hl.symm], by rw [e1 l rfl]; exact List.Pairwise.nil⟩
theorem Seg.full {l0 l : List α} (h : Seg R l0 l 0 l.length) (hl : l.length = l0.length) : l.Perm l0 ∧ l.Pairwise R := by
  obtain ⟨p, s⟩ := h
  rw [List.drop_zero, List.drop_zero, Nat.sub_zero, List.take_length] at p
  rw [List.drop_zero, Nat.sub_zero, List.take_length] at s
  rw [hl, List.take_length] at p
  exact ⟨p, s⟩
/-- the list cut in three -/
theorem cut3 (l : List α) {a b : Nat} (h1 : a ≤ b) (h2 : b ≤ l.length) : l = l.take a ++ ((l.drop a).take (b - a) ++ l.drop b) ∧ (l.take a).length = a ∧ ((l.drop a).take (b - a)).length = b - a := by
  refine ⟨?_, by rw [List.length_take]; omega, by rw [List.length_take, List.length_drop]; omega⟩
  have e2 : (l.drop a).take (b - a) ++ l.drop b = l.drop a := by
    have : l.drop b = (l.drop a).drop (b - a) := by rw [List.drop_drop]; congr 1; omega
    rw [this, List.take_append_drop]
  rw [e2, List.take_append_drop]
theorem stretch_new {l W : List α} {a b : Nat} (h1 : a ≤ b) (h2 : b ≤ l.length) (hW : W.length = b - a) : ((l.take a ++ (W ++ l.drop b)).drop a).take (b - a) = W := by
  have c2 : (l.take a).length = a := by rw [List.length_take]; omega
  rw [List.drop_append_of_le_length (by omega), List.drop_of_length_le (by omega), List.nil_append, List.take_append_of_le_length (by omega), List.take_of_length_le (by omega)]
theorem stretch_old {l W : List α} {a b s e : Nat} (h1 : a ≤ b) (h2 : b ≤ l.length) (hW : W.length = b - a) (hd : e ≤ a ∨ b ≤ s) : ((l.take a ++ (W ++ l.drop b)).drop s).take (e - s) = (l.drop s).take (e - s) := by
  have c2 : (l.take a).length = a := by rw [List.length_take]; omega
  apply List.ext_getElem?
  intro j
  rcases Nat.lt_or_ge j (e - s) with c | c
  · rw [List.getElem?_take_of_lt c, List.getElem?_take_of_lt c, List.getElem?_drop, List.getElem?_drop]
    rcases hd with h | h
    · rw [List.getElem?_append_left (by omega), List.getElem?_take_of_lt (by omega)]
    · rw [List.getElem?_append_right (by omega), List.getElem?_append_right (by omega), List.getElem?_drop]
      congr 1; omega
  · rw [List.getElem?_eq_none (by rw [List.length_take]; omega), List.getElem?_eq_none (by rw [List.length_take]; omega)]
theorem turned_length {l W : List α} {a b : Nat} (h1 : a ≤ b) (h2 : b ≤ l.length) (hW : W.length = b - a) : (l.take a ++ (W ++ l.drop b)).length = l.length := by
  simp only [List.length_append, List.length_take, List.length_drop]; omega
theorem Seg.old {l0 l W : List α} {a b s e : Nat} (h : Seg R l0 l s e) (h1 : a ≤ b) (h2 : b ≤ l.length) (hW : W.length = b - a) (hd : e ≤ a ∨ b ≤ s) : Seg R l0 (l.take a ++ (W ++ l.drop b)) s e := by
  have e1 := stretch_old (e := e) h1 h2 hW hd
  exact ⟨by rw [e1]; exact h.perm, by rw [e1]; exact h.sorted⟩
theorem Seg.new {l0 l W : List α} {a b : Nat} (h1 : a ≤ b) (h2 : b ≤ l.length) (hp : W.Perm ((l0.drop a).take (b - a))) (hs : W.Pairwise R) (hl : l.length = l0.length) : Seg R l0 (l.take a ++ (W ++ l.drop b)) a b := by
  have hW : W.length = b - a := by rw [hp.length_eq, List.length_take, List.length_drop]; omega
  have e1 := stretch_new h1 h2 hW
  exact ⟨by rw [e1]; exact hp, by rw [e1]; exact hs⟩
/-- a stretch is two stretches -/
theorem stretch_two (l : List α) {a m b : Nat} (h1 : a ≤ m) (h2 : m ≤ b) : (l.drop a).take (b - a) = (l.drop a).take (m - a) ++ (l.drop m).take (b - m) := by
  have e1 : b - a = (m - a) + (b - m) := by omega
  rw [e1, List.take_add, List.drop_drop, show a + (m - a) = m by omega]
/-- two stretches of the first list: whoever is in the one came ahead of whoever is in the other -/
theorem seg_bef {Q : α → α → Prop} {l0 l : List α} (hQ : l0.Pairwise Q) {a m b : Nat} (h1 : a ≤ m) (h2 : m ≤ b) (hU : Seg R l0 l a m) (hV : Seg R l0 l m b) : ∀ x ∈ (l.drop a).take (m - a), ∀ y ∈ (l.drop m).take (b - m), Q x y := by
  intro x hx y hy
  have hx' := hU.perm.mem_iff.1 hx
  have hy' := hV.perm.mem_iff.1 hy
  have h : ((l0.drop a).take (b - a)).Pairwise Q := (hQ.sublist (List.drop_sublist _ _)).sublist (List.take_sublist _ _)
  rw [stretch_two l0 h1 h2] at h
  exact (List.pairwise_append.1 h).2.2 x hx' y hy'
end SymPlain
