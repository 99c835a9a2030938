/- PLAIN LAW: places sorted by any order (no program in sight). -/
import Derived.Test.YtomgcfjdmoefgaaDoorSortPlain
namespace GSort
open SortPlain (asInts asInts_length asInts_at asInts_at1 asInts_swap split_last drop_range)

/-- the places 0 .. n - 1 by R -/
structure Falls (R : Nat → Nat → Prop) (n : Nat) (l : List Nat) : Prop where
  perm : l.Perm (List.range n)
  sorted : l.Pairwise R
variable {R : Nat → Nat → Prop}
theorem Falls.lt {n : Nat} {l : List Nat} (h : Falls R n l) : ∀ i ∈ l, i < n := fun i hi => List.mem_range.1 (h.perm.mem_iff.1 hi)
theorem Falls.length {n : Nat} {l : List Nat} (h : Falls R n l) : l.length = n := by rw [h.perm.length_eq, List.length_range]
theorem Falls.nodup {n : Nat} {l : List Nat} (h : Falls R n l) : l.Nodup := h.perm.nodup_iff.2 List.nodup_range
theorem pairwise_mid {A B : List Nat} {x : Nat} (h : (A ++ B).Pairwise R) (hA : ∀ y ∈ A, R y x) (hB : ∀ y ∈ B, R x y) : (A ++ x :: B).Pairwise R := by
  rw [List.pairwise_append] at h ⊢
  refine ⟨h.1, List.pairwise_cons.2 ⟨hB, h.2.1⟩, fun a ha b hb => ?_⟩
  rcases List.mem_cons.1 hb with e | e
  · subst e; exact hA a ha
  · exact h.2.2 a ha b e
theorem all_before (T : ∀ a b c, R a b → R b c → R a c) {A : List Nat} {y x : Nat} (h : (A ++ [y]).Pairwise R) (hy : R y x) : ∀ z ∈ A ++ [y], R z x := by
  intro z hz
  rcases List.mem_append.1 hz with e | e
  · exact T _ _ _ ((List.pairwise_append.1 h).2.2 z e y (by simp)) hy
  · simp at e; subst e; exact hy
theorem Falls.step {i : Nat} {A B : List Nat} (h : Falls R i (A ++ B)) (hA : ∀ y ∈ A, R y i) (hB : ∀ y ∈ B, R i y) : Falls R (i + 1) (A ++ i :: B) := by
  refine ⟨?_, pairwise_mid h.sorted hA hB⟩
  rw [List.range_succ]
  exact List.perm_middle.trans (((h.perm).cons i).trans (List.perm_append_singleton i _).symm)
theorem Falls.zero : Falls R 0 [] := ⟨List.Perm.refl _, List.Pairwise.nil⟩
theorem Falls.one : Falls R 1 [0] := ⟨List.Perm.refl _, by simp⟩
end GSort
