/- PLAIN LAW: a text cut behind each end of a line (no program in sight). -/
import Derived.Lib.Strings
import Derived.Lib.Bytealg
set_option linter.unusedVariables false
set_option linter.unusedSimpArgs false
namespace LinesPlain
/-- the first line, with its end, and what is left -/
def cutL : List UInt8 → List UInt8 × List UInt8
  | [] => ([], [])
  | c :: r => if c = 10 then ([10], r) else (c :: (cutL r).1, (cutL r).2)
theorem cutL_app : ∀ s, (cutL s).1 ++ (cutL s).2 = s
  | [] => rfl
  | c :: r => by
    unfold cutL
    by_cases h : c = 10
    · rw [if_pos h]; simp [h]
    · rw [if_neg h]; simp [cutL_app r]
theorem cutL_len : ∀ s, s ≠ [] → 0 < (cutL s).1.length
  | [], h => absurd rfl h
  | c :: r, _ => by
    unfold cutL
    by_cases h : c = 10
    · rw [if_pos h]; simp
    · rw [if_neg h]; simp
theorem cutL_sum (s : List UInt8) : (cutL s).1.length + (cutL s).2.length = s.length := by
  have := congrArg List.length (cutL_app s)
  rwa [List.length_append] at this
def linesN : Nat → List UInt8 → List (List UInt8)
  | 0, _ => []
  | n + 1, s => if s = [] then [] else (cutL s).1 :: linesN n (cutL s).2
theorem linesN_eq : ∀ n m s, s.length ≤ n → s.length ≤ m → linesN n s = linesN m s
  | 0, 0, _, _, _ => rfl
  | 0, m + 1, s, h, _ => by
    obtain rfl := List.eq_nil_of_length_eq_zero (Nat.le_zero.1 h)
    simp [linesN]
  | n + 1, 0, s, _, h => by
    obtain rfl := List.eq_nil_of_length_eq_zero (Nat.le_zero.1 h)
    simp [linesN]
  | n + 1, m + 1, s, h, h' => by
    unfold linesN
    by_cases hs : s = []
    · rw [if_pos hs, if_pos hs]
    · rw [if_neg hs, if_neg hs]
      have h1 := cutL_len s hs
      have h2 := cutL_sum s
      rw [linesN_eq n m (cutL s).2 (by omega) (by omega)]
def linesOf (s : List UInt8) : List (List UInt8) := linesN s.length s
theorem linesOf_nil : linesOf [] = [] := rfl
theorem linesOf_cut (s : List UInt8) (h : s ≠ []) : linesOf s = (cutL s).1 :: linesOf (cutL s).2 := by
  have h1 := cutL_len s h
  have h2 := cutL_sum s
  have h0 : 0 < s.length := List.length_pos_iff.2 h
  unfold linesOf
  obtain ⟨k, hk⟩ : ∃ k, s.length = k + 1 := ⟨s.length - 1, by omega⟩
  rw [hk]
  rw [linesN, if_neg h]
  rw [linesN_eq k (cutL s).2.length (cutL s).2 (by omega) (Nat.le_refl _)]
/-- a line that ends, and the rest -/
theorem cutL_end : ∀ (l r : List UInt8), (10 : UInt8) ∉ l → cutL (l ++ 10 :: r) = (l ++ [10], r)
  | [], r, _ => by simp [cutL]
  | c :: l, r, h => by
    have hc : c ≠ 10 := fun e => h (by simp [e])
    have ih := cutL_end l r (fun m => h (List.mem_cons_of_mem _ m))
    show cutL (c :: (l ++ 10 :: r)) = _
    unfold cutL
    rw [if_neg hc, ih]
    simp
theorem cutL_no : ∀ (l : List UInt8), (10 : UInt8) ∉ l → cutL l = (l, [])
  | [], _ => rfl
  | c :: l, h => by
    have hc : c ≠ 10 := fun e => h (by simp [e])
    have ih := cutL_no l (fun m => h (List.mem_cons_of_mem _ m))
    unfold cutL
    rw [if_neg hc, ih]
theorem linesOf_end (l r : List UInt8) (h : (10 : UInt8) ∉ l) : linesOf (l ++ 10 :: r) = (l ++ [10]) :: linesOf r := by
  rw [linesOf_cut _ (by simp), cutL_end l r h]
theorem linesOf_no (l : List UInt8) (h : (10 : UInt8) ∉ l) (h0 : l ≠ []) : linesOf l = [l] := by
  rw [linesOf_cut _ h0, cutL_no l h, linesOf_nil]
/-- where the end stands -/
theorem indexByte_cut : ∀ s : List UInt8, (Go.Lib.indexByte s 10 = -1 ∧ cutL s = (s, [])) ∨ ∃ i : Nat, Go.Lib.indexByte s 10 = i ∧ i < s.length ∧ cutL s = (s.take (i + 1), s.drop (i + 1))
  | [] => .inl ⟨rfl, rfl⟩
  | c :: r => by
    by_cases h : c = 10
    · refine .inr ⟨0, ?_, by simp, ?_⟩
      · simp [Go.Lib.indexByte, h]
      · simp [cutL, h]
    · have hb : (c == 10) = false := by rw [beq_eq_false_iff_ne]; exact h
      rcases indexByte_cut r with ⟨h1, h2⟩ | ⟨i, h1, h2, h3⟩
      · refine .inl ⟨?_, ?_⟩
        · simp [Go.Lib.indexByte, hb, h1]
        · simp [cutL, h, h2]
      · refine .inr ⟨i + 1, ?_, by simp; omega, ?_⟩
        · have : ¬ ((i : Int) = -1) := by omega
          simp [Go.Lib.indexByte, hb, h1, this]
        · simp [cutL, h, h3]
end LinesPlain
