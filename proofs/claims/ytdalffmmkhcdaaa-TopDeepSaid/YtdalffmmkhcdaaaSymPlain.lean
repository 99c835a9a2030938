/- PLAIN LAW: two sorted stretches merged in place; one placed among many; an exchange (no program in sight). -/
import Derived.Test.YtdalffmmkhcdaaaHeapPlain
set_option linter.unusedVariables false
set_option linter.unusedSimpArgs false
namespace SymPlain
open HeapPlain (swapL)
variable {α : Type} {R : α → α → Prop} (d : α)

theorem getD_mid (A : List α) (x : α) (B : List α) {i : Nat} (h : i = A.length) : (A ++ x :: B).getD i d = x := by
  subst h; rw [List.getD_eq_getElem?_getD, List.getElem?_append_right (Nat.le_refl _)]; simp
theorem swapL_mid (A : List α) (x : α) (C : List α) (y : α) (E : List α) {i j : Nat} (hi : i = A.length) (hj : j = A.length + 1 + C.length) :
    swapL d (A ++ x :: (C ++ y :: E)) i j = A ++ y :: (C ++ x :: E) := by
  have e1 : (A ++ x :: (C ++ y :: E)).getD i d = x := getD_mid d A x _ hi
  have e2 : (A ++ x :: (C ++ y :: E)).getD j d = y := by
    have := getD_mid d (A ++ x :: C) y E (i := j) (by simp; omega)
    simpa using this
  unfold swapL
  rw [e1, e2]
  have s1 : (A ++ x :: (C ++ y :: E)).set i y = A ++ y :: (C ++ y :: E) := by
    rw [List.set_append_right _ _ (by omega), show i - A.length = 0 by omega]; rfl
  rw [s1]
  have s2 : (A ++ y :: (C ++ y :: E)).set j x = A ++ y :: (C ++ x :: E) := by
    rw [List.set_append_right _ _ (by omega), show j - A.length = C.length + 1 by omega, List.set_cons_succ, List.set_append_right _ _ (by omega), show C.length - C.length = 0 by omega]; rfl
  exact s2
theorem swapL_down (A : List α) (x y : α) (E : List α) {i j : Nat} (hj : j = A.length) (hi : i = A.length + 1) : swapL d (A ++ x :: y :: E) i j = A ++ y :: x :: E := by
  have e1 : (A ++ x :: y :: E).getD j d = x := getD_mid d A x _ hj
  have e2 : (A ++ x :: y :: E).getD i d = y := by
    have := getD_mid d (A ++ [x]) y E (i := i) (by simp; omega)
    simpa using this
  unfold swapL
  rw [e1, e2]
  have s1 : (A ++ x :: y :: E).set i x = A ++ x :: x :: E := by
    rw [List.set_append_right _ _ (by omega), show i - A.length = 1 by omega]; rfl
  rw [s1, List.set_append_right _ _ (by omega), show j - A.length = 0 by omega]; rfl
theorem pairwise_mid {A B : List α} {x : α} (h : (A ++ B).Pairwise R) (hA : ∀ y ∈ A, R y x) (hB : ∀ y ∈ B, R x y) : (A ++ x :: B).Pairwise R := by
  rw [List.pairwise_append] at h ⊢
  refine ⟨h.1, List.pairwise_cons.2 ⟨hB, h.2.1⟩, fun a ha b hb => ?_⟩
  rcases List.mem_cons.1 hb with e | e
  · subst e; exact hA a ha
  · exact h.2.2 a ha b e
theorem all_before (T : ∀ a b c, R a b → R b c → R a c) {A : List α} {y x : α} (h : (A ++ [y]).Pairwise R) (hy : R y x) : ∀ z ∈ A ++ [y], R z x := by
  intro z hz
  rcases List.mem_append.1 hz with e | e
  · exact T _ _ _ ((List.pairwise_append.1 h).2.2 z e y (by simp)) hy
  · simp at e; subst e; exact hy
theorem all_behind (T : ∀ a b c, R a b → R b c → R a c) {A : List α} {y x : α} (h : (y :: A).Pairwise R) (hy : R x y) : ∀ z ∈ y :: A, R x z := by
  intro z hz
  rcases List.mem_cons.1 hz with e | e
  · subst e; exact hy
  · exact T _ _ _ hy ((List.pairwise_cons.1 h).1 z e)
theorem split_last (A : List α) (h : A ≠ []) : ∃ A' y, A = A' ++ [y] := ⟨A.dropLast, A.getLast h, (List.dropLast_concat_getLast h).symm⟩
/-- all of the one stand before all of the other, if its last one stands before its first one -/
theorem cross (T : ∀ a b c, R a b → R b c → R a c) {U1 U2 V1 V2 : List α} (hU : (U1 ++ U2).Pairwise R) (hV : (V1 ++ V2).Pairwise R)
    (h : ∀ (C : List α) (x y : α) (D : List α), U1 = C ++ [x] → V2 = y :: D → R x y) : ∀ x ∈ U1, ∀ y ∈ V2, R x y := by
  intro x hx y hy
  obtain ⟨C, x0, rfl⟩ := split_last U1 (fun e => by rw [e] at hx; simp at hx)
  cases V2 with
  | nil => simp at hy
  | cons y0 D =>
    have h0 := h C x0 y0 D rfl rfl
    have h1 := all_before T (List.pairwise_append.1 hU).1 h0 x hx
    exact all_behind T (List.pairwise_append.1 hV).2.1 h1 y hy
theorem merge_join {U1 U2 V1 V2 W1 W2 : List α} (hU : (U1 ++ U2).Pairwise R) (hV : (V1 ++ V2).Pairwise R) (h12 : ∀ x ∈ U1, ∀ y ∈ V2, R x y) (h21 : ∀ x ∈ V1, ∀ y ∈ U2, R x y)
    (p1 : W1.Perm (U1 ++ V1)) (s1 : W1.Pairwise R) (p2 : W2.Perm (U2 ++ V2)) (s2 : W2.Pairwise R) : (W1 ++ W2).Perm ((U1 ++ U2) ++ (V1 ++ V2)) ∧ (W1 ++ W2).Pairwise R := by
  rw [List.pairwise_append] at hU hV
  refine ⟨?_, List.pairwise_append.2 ⟨s1, s2, fun x hx y hy => ?_⟩⟩
  · refine (p1.append p2).trans ?_
    rw [List.append_assoc, List.append_assoc]
    refine List.Perm.append_left U1 ?_
    rw [← List.append_assoc, ← List.append_assoc]
    exact List.Perm.append_right V2 List.perm_append_comm
  · have hx' := p1.mem_iff.1 hx
    have hy' := p2.mem_iff.1 hy
    rcases List.mem_append.1 hx' with a | a <;> rcases List.mem_append.1 hy' with b | b
    · exact hU.2.2 x a y b
    · exact h12 x a y b
    · exact h21 x a y b
    · exact hV.2.2 x a y b
/-- one into many -/
theorem one_left {u : α} {V1 V2 : List α} (hV : (V1 ++ V2).Pairwise R) (h1 : ∀ x ∈ V1, R x u) (h2 : ∀ y ∈ V2, R u y) : (V1 ++ u :: V2).Perm ([u] ++ (V1 ++ V2)) ∧ (V1 ++ u :: V2).Pairwise R :=
  ⟨by simp, pairwise_mid hV h1 h2⟩
theorem one_right {v : α} {U1 U2 : List α} (hU : (U1 ++ U2).Pairwise R) (h1 : ∀ x ∈ U1, R x v) (h2 : ∀ y ∈ U2, R v y) : (U1 ++ v :: U2).Perm ((U1 ++ U2) ++ [v]) ∧ (U1 ++ v :: U2).Pairwise R :=
  ⟨List.perm_middle.trans (List.perm_append_singleton v _).symm, pairwise_mid hU h1 h2⟩
/-- a list cut where one likes -/
theorem cut_at (l : List α) (n : Nat) (h : n ≤ l.length) : ∃ A B, l = A ++ B ∧ A.length = n := ⟨l.take n, l.drop n, (List.take_append_drop n l).symm, by rw [List.length_take]; omega⟩
end SymPlain
