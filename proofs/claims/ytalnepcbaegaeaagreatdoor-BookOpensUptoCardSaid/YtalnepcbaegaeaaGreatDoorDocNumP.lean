/- PLAIN LAW: the document reads a number (no program in sight). -/
import Derived.Test.YtalnepcbaegaeaaGreatDoorNumPlain
import Derived.Lib.AtoiAllCases
set_option linter.unusedVariables false
set_option linter.unusedSimpArgs false
namespace NumPlain
open Go.Lib

/-- the value of digits -/
def valD (l : List UInt8) : Nat := l.foldl (fun n c => n * 10 + (c.toNat - 48)) 0
theorem valD_snoc (l : List UInt8) (c : UInt8) : valD (l ++ [c]) = valD l * 10 + (c.toNat - 48) := by simp [valD]
theorem valD_dec (u : Nat) : valD (decDigits u) = u := by
  rw [decDigits]
  by_cases hu : u < 10
  · rw [dif_pos hu]
    show 0 * 10 + ((UInt8.ofNat (48 + u)).toNat - 48) = u
    rw [digit_nat hu]; omega
  · rw [dif_neg hu, valD_snoc, valD_dec (u / 10), digit_nat (Nat.mod_lt _ (by decide))]
    omega
termination_by u
theorem dec_len : ∀ (k u : Nat), 0 < k → u < 10 ^ k → (decDigits u).length ≤ k
  | 0, _, h, _ => absurd h (by omega)
  | k + 1, u, _, h => by
    rw [decDigits]
    by_cases hu : u < 10
    · rw [dif_pos hu]; simp
    · rw [dif_neg hu, List.length_append]
      rcases Nat.eq_zero_or_pos k with h0 | h0
      · subst h0; simp at h; omega
      · have := dec_len k (u / 10) h0 (by rw [Nat.pow_succ] at h; omega)
        simp; omega
/-- the sign and the digits -/
def signed (s : List UInt8) : Bool := s.head? == some 45
def digitsOf (s : List UInt8) : List UInt8 := if signed s then s.drop 1 else s
def isD (c : UInt8) : Prop := 48 ≤ c.toNat ∧ c.toNat ≤ 57
theorem dec_head (u : Nat) : ∃ c r, decDigits u = c :: r ∧ 48 ≤ c.toNat ∧ c.toNat ≤ 57 := by
  cases h : decDigits u with
  | nil => exact absurd h (dec_ne u)
  | cons c r => exact ⟨c, r, rfl, dec_digits u c (by rw [h]; simp)⟩
/-- what is written as a number has that form -/
theorem numP_form {s : List UInt8} {v : Int} (h : numP s = some v) : signed s = decide (v < 0) ∧ digitsOf s ≠ [] ∧ s.length ≤ 20 ∧ (∀ c ∈ digitsOf s, isD c) ∧ valD (digitsOf s) = v.natAbs ∧ -9223372036854775808 ≤ v ∧ v ≤ 9223372036854775807 := by
  obtain ⟨hs, ha⟩ := numP_some h
  obtain ⟨b0, b1⟩ := atoiAll_bounds ha
  have hl : (decDigits v.natAbs).length ≤ 19 := dec_len 19 _ (by decide) (by
    have : v.natAbs ≤ 9223372036854775808 := by omega
    exact Nat.lt_of_le_of_lt this (by decide))
  by_cases hn : v < 0
  · have e : s = 45 :: decDigits v.natAbs := by rw [hs]; unfold itoa; rw [if_pos hn]
    have hsg : signed s = true := by rw [e]; rfl
    have hd : digitsOf s = decDigits v.natAbs := by unfold digitsOf; rw [if_pos hsg, e]; rfl
    refine ⟨by rw [hsg]; simp [hn], by rw [hd]; exact dec_ne _, by rw [e]; simp; omega, by rw [hd]; exact dec_digits _, by rw [hd]; exact valD_dec _, b0, b1⟩
  · have e : s = decDigits v.natAbs := by rw [hs]; unfold itoa; rw [if_neg hn]; congr 1; omega
    obtain ⟨c, r, hc, h0, h1⟩ := dec_head v.natAbs
    have hsg : signed s = false := by
      rw [e, hc]
      show (some c == some 45) = false
      rw [beq_eq_false_iff_ne]
      intro h
      have := Option.some.inj h
      rw [this] at h0
      exact absurd h0 (by decide)
    have hd : digitsOf s = decDigits v.natAbs := by unfold digitsOf; rw [hsg]; exact e
    refine ⟨by rw [hsg]; simp [hn], by rw [hd]; exact dec_ne _, by rw [e]; omega, by rw [hd]; exact dec_digits _, by rw [hd]; exact valD_dec _, b0, b1⟩
theorem numP_not_empty {s : List UInt8} (h : digitsOf s = []) : numP s = none := by
  cases hn : numP s with
  | none => rfl
  | some v => exact absurd h (numP_form hn).2.1
theorem numP_not_long {s : List UInt8} (h : 20 < s.length) : numP s = none := by
  cases hn : numP s with
  | none => rfl
  | some v => have := (numP_form hn).2.2.1; omega
theorem numP_not_digit {s : List UInt8} {c : UInt8} (h : c ∈ digitsOf s) (hc : ¬ isD c) : numP s = none := by
  cases hn : numP s with
  | none => rfl
  | some v => exact absurd ((numP_form hn).2.2.2.1 c h) hc
/-- the number as the document reckons it, modulo the machine's word -/
theorem numP_reckoned (s : List UInt8) (n : Int) (hn : n = Go.IntKind.i64.wrap (if signed s = true then -(Go.IntKind.i64.wrap (valD (digitsOf s) : Int)) else (Go.IntKind.i64.wrap (valD (digitsOf s) : Int)))) (h0 : -9223372036854775808 ≤ n) (h1 : n ≤ 9223372036854775807) :
    (itoa n = s → numP s = some n) ∧ (itoa n ≠ s → numP s = none) := by
  refine ⟨fun h => by rw [← h]; exact numP_itoa n h0 h1, fun h => ?_⟩
  cases hp : numP s with
  | none => rfl
  | some v =>
    exfalso
    obtain ⟨f1, _, _, _, f5, f6, f7⟩ := numP_form hp
    apply h
    have hv : n = v := by
      rw [hn, f5, f1]
      by_cases hv : v < 0
      · simp [hv, Go.IntKind.wrap, Go.IntKind.bits, Go.IntKind.signed]
        omega
      · simp [hv, Go.IntKind.wrap, Go.IntKind.bits, Go.IntKind.signed]
        omega
    rw [hv]
    exact (numP_some hp).1.symm
end NumPlain
