/- PLAIN: sums of numbers. -/
import Derived.Test.YtomgcfjdmoefgaaDoorWithin
namespace Go.Proofs.YtomgcfjdmoefgaaDoor
open Go Go.RowKit

theorem sum_take (xs : List Int) (k : Nat) (h : k < xs.length) : (xs.take (k + 1)).sum = (xs.take k).sum + xs.getD k 0 := by
  rw [List.take_add_one, List.sum_append, List.getD_eq_getElem?_getD, List.getElem?_eq_getElem h]; simp

/-- sums stay small -/
def SmallSum (xs : List Int) : Prop := ∀ k, k ≤ xs.length → -4611686018427387904 ≤ (xs.take k).sum ∧ (xs.take k).sum ≤ 4611686018427387904

theorem take_sum_le (xs : List Int) (h : ∀ x ∈ xs, 0 ≤ x) (k : Nat) : 0 ≤ (xs.take k).sum ∧ (xs.take k).sum ≤ xs.sum := by
  induction xs generalizing k with
  | nil => simp
  | cons x xs ih =>
    have hx := h x (by simp)
    have ih := fun k => ih (fun y hy => h y (List.mem_cons_of_mem _ hy)) k
    cases k with
    | zero => have := ih xs.length; rw [List.take_length] at this; simp; omega
    | succ k => have := ih k; simp; omega
theorem small_of_nonneg (xs : List Int) (h : ∀ x ∈ xs, 0 ≤ x) (hs : xs.sum ≤ 4611686018427387904) : SmallSum xs := fun k _ => by
  have := take_sum_le xs h k; omega
theorem sum_le_const (m : List Int) (C : Int) (h : ∀ k ∈ m, k ≤ C) : m.sum ≤ C * m.length := by
  induction m with
  | nil => simp
  | cons a m ih =>
    have := h a (by simp)
    have := ih (fun k hk => h k (List.mem_cons_of_mem _ hk))
    simp only [List.sum_cons, List.length_cons]
    rw [Int.natCast_succ, Int.mul_add]; omega
end Go.Proofs.YtomgcfjdmoefgaaDoor
