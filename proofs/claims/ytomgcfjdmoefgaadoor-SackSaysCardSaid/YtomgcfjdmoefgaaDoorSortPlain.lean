/- PLAIN LAW: the greatest first, of two that are alike the one that stands first (no program in sight). -/
namespace SortPlain

/-- a stands before b -/
def Bef (t : List Int) (a b : Nat) : Prop := t.getD b 0 < t.getD a 0 ∨ (t.getD a 0 = t.getD b 0 ∧ a < b)
theorem Bef.trans {t : List Int} {a b c : Nat} (h : Bef t a b) (k : Bef t b c) : Bef t a c := by
  unfold Bef at *; omega
theorem Bef.irrefl {t : List Int} {a : Nat} : ¬ Bef t a a := by unfold Bef; omega
/-- the places 0 .. n - 1 by Bef -/
structure Falls (t : List Int) (n : Nat) (l : List Nat) : Prop where
  perm : l.Perm (List.range n)
  sorted : l.Pairwise (Bef t)
theorem Falls.lt {t : List Int} {n : Nat} {l : List Nat} (h : Falls t n l) : ∀ i ∈ l, i < n := fun i hi => List.mem_range.1 (h.perm.mem_iff.1 hi)
theorem Falls.length {t : List Int} {n : Nat} {l : List Nat} (h : Falls t n l) : l.length = n := by rw [h.perm.length_eq, List.length_range]
theorem pairwise_mid {t : List Int} {A B : List Nat} {x : Nat} (h : (A ++ B).Pairwise (Bef t)) (hA : ∀ y ∈ A, Bef t y x) (hB : ∀ y ∈ B, Bef t x y) : (A ++ x :: B).Pairwise (Bef t) := by
  rw [List.pairwise_append] at h ⊢
  refine ⟨h.1, List.pairwise_cons.2 ⟨hB, h.2.1⟩, fun a ha b hb => ?_⟩
  rcases List.mem_cons.1 hb with e | e
  · subst e; exact hA a ha
  · exact h.2.2 a ha b e
/-- all that stand ahead of one that stands before x stand before x -/
theorem all_before {t : List Int} {A : List Nat} {y x : Nat} (h : (A ++ [y]).Pairwise (Bef t)) (hy : Bef t y x) : ∀ z ∈ A ++ [y], Bef t z x := by
  intro z hz
  rcases List.mem_append.1 hz with e | e
  · exact ((List.pairwise_append.1 h).2.2 z e y (by simp)).trans hy
  · simp at e; subst e; exact hy
theorem Falls.step {t : List Int} {i : Nat} {A B : List Nat} (h : Falls t i (A ++ B)) (hA : ∀ y ∈ A, Bef t y i) (hB : ∀ y ∈ B, Bef t i y) : Falls t (i + 1) (A ++ i :: B) := by
  refine ⟨?_, pairwise_mid h.sorted hA hB⟩
  rw [List.range_succ]
  exact List.perm_middle.trans (((h.perm).cons i).trans (List.perm_append_singleton i _).symm)
theorem Falls.zero (t : List Int) : Falls t 0 [] := ⟨List.Perm.refl _, List.Pairwise.nil⟩
theorem Falls.one (t : List Int) : Falls t 1 [0] := ⟨List.Perm.refl _, by simp⟩
theorem Falls.nodup {t : List Int} {n : Nat} {l : List Nat} (h : Falls t n l) : l.Nodup := h.perm.nodup_iff.2 List.nodup_range
theorem Falls.mono {t : List Int} {n : Nat} {l : List Nat} (h : Falls t n l) (a b : Nat) (ha : a < l.length) (hb : b < l.length) (hab : a < b) : t.getD l[b] 0 ≤ t.getD l[a] 0 := by
  have := List.pairwise_iff_getElem.1 h.sorted a b ha hb hab
  unfold Bef at this; omega
/-- the numbers as the row holds them -/
def asInts (l : List Nat) : List Int := l.map fun i : Nat => (i : Int)
theorem asInts_length (l : List Nat) : (asInts l).length = l.length := by simp [asInts]
theorem asInts_at (A : List Nat) (x : Nat) (D : List Nat) : (asInts (A ++ x :: D)).getD A.length 0 = (x : Int) := by
  simp [asInts, List.getD_eq_getElem?_getD]
theorem asInts_at1 (A : List Nat) (y x : Nat) (D : List Nat) : (asInts (A ++ y :: x :: D)).getD (A.length + 1) 0 = (x : Int) := by
  simp [asInts, List.getD_eq_getElem?_getD]
theorem asInts_swap (A : List Nat) (y x : Nat) (D : List Nat) : ((asInts (A ++ y :: x :: D)).set (A.length + 1) (y : Int)).set A.length (x : Int) = asInts (A ++ x :: y :: D) := by
  simp [asInts, List.set_append]
theorem asInts_swap' (A : List Nat) (y x : Nat) (D : List Nat) : ((asInts (A ++ y :: x :: D)).set A.length (x : Int)).set (A.length + 1) (y : Int) = asInts (A ++ x :: y :: D) := by
  simp [asInts, List.set_append]
theorem split_last (A : List Nat) (h : A ≠ []) : ∃ A' y, A = A' ++ [y] := ⟨A.dropLast, A.getLast h, (List.dropLast_concat_getLast h).symm⟩
theorem drop_range (n i : Nat) (h : i < n) : (List.range n).drop i = i :: (List.range n).drop (i + 1) := by
  rw [List.drop_eq_getElem_cons (by simpa using h)]; simp
end SortPlain
