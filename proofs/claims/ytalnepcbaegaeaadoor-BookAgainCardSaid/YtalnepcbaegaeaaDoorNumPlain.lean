/- PLAIN LAW: a number as it is written, read again (no program in sight). -/
import Derived.Lib.AtoiAll
import Derived.Lib.ItoaNum
set_option linter.unusedVariables false
set_option linter.unusedSimpArgs false
namespace NumPlain
open Go.Lib

/-- a number, as it is written -/
def numP (s : List UInt8) : Option Int := match atoiAll s with
  | .ok v => if itoa v = s then some v else none
  | _ => none
theorem numP_some {s : List UInt8} {v : Int} (h : numP s = some v) : s = itoa v ∧ atoiAll s = .ok v := by
  unfold numP at h
  cases ha : atoiAll s with
  | ok u =>
    rw [ha] at h
    simp only at h
    by_cases e : itoa u = s
    · rw [if_pos e] at h
      cases h
      exact ⟨e.symm, rfl⟩
    · rw [if_neg e] at h; cases h
  | _ => rw [ha] at h; cases h
theorem parse_snoc : ∀ (l : List UInt8) (c : UInt8) (acc : Nat), parseUint10 acc (l ++ [c]) = match parseUint10 acc l with
    | .ok a => parseUint10 a [c]
    | r => r
  | [], c, acc => by simp [parseUint10]
  | d :: l, c, acc => by
    show parseUint10 acc (d :: (l ++ [c])) = _
    unfold parseUint10
    by_cases h1 : 48 ≤ d.toNat ∧ d.toNat ≤ 57
    · rw [if_pos h1, if_pos h1]
      by_cases h2 : 1844674407370955162 ≤ acc
      · rw [if_pos h2, if_pos h2]
      · rw [if_neg h2, if_neg h2]
        by_cases h3 : 18446744073709551616 ≤ acc * 10 + (d.toNat - 48)
        · rw [if_pos h3, if_pos h3]
        · rw [if_neg h3, if_neg h3]
          exact parse_snoc l c _
    · rw [if_neg h1, if_neg h1]
theorem digit_nat {k : Nat} (h : k < 10) : (UInt8.ofNat (48 + k)).toNat = 48 + k := by
  rw [UInt8.toNat_ofNat']; omega
theorem parse_one (a k : Nat) (h : k < 10) (hb : a * 10 + k < 18446744073709551616) : parseUint10 a [UInt8.ofNat (48 + k)] = .ok (a * 10 + k) := by
  unfold parseUint10
  rw [digit_nat h, if_pos (by omega), if_neg (by omega), if_neg (by omega)]
  simp only [parseUint10]
  congr 1
  omega
theorem parse_dec (u : Nat) (h : u < 18446744073709551616) : parseUint10 0 (decDigits u) = .ok u := by
  rw [decDigits]
  by_cases hu : u < 10
  · rw [dif_pos hu, parse_one 0 u hu (by omega)]
    simp
  · rw [dif_neg hu, parse_snoc, parse_dec (u / 10) (by omega)]
    simp only
    rw [parse_one _ _ (Nat.mod_lt _ (by decide)) (by omega)]
    congr 1
    omega
termination_by u
theorem dec_ne (u : Nat) : decDigits u ≠ [] := by
  rw [decDigits]
  by_cases hu : u < 10
  · rw [dif_pos hu]; simp
  · rw [dif_neg hu]; simp
theorem dec_digits (u : Nat) : ∀ c ∈ decDigits u, 48 ≤ c.toNat ∧ c.toNat ≤ 57 := by
  rw [decDigits]
  by_cases hu : u < 10
  · rw [dif_pos hu]
    intro c hc
    rw [List.mem_singleton] at hc
    rw [hc, digit_nat hu]; omega
  · rw [dif_neg hu]
    intro c hc
    rcases List.mem_append.1 hc with hc | hc
    · exact dec_digits (u / 10) c hc
    · rw [List.mem_singleton] at hc
      rw [hc, digit_nat (Nat.mod_lt _ (by decide))]; omega
termination_by u
theorem mag_dec (u : Nat) (h : u < 18446744073709551616) : parseMag (decDigits u) = .ok u := by
  unfold parseMag
  rw [if_neg (dec_ne u), parse_dec u h]
theorem atoi_itoa (n : Int) (h0 : -9223372036854775808 ≤ n) (h1 : n ≤ 9223372036854775807) : atoiAll (itoa n) = .ok n := by
  unfold itoa
  by_cases hn : n < 0
  · rw [if_pos hn]
    have e : parseMag (decDigits n.natAbs) = .ok n.natAbs := mag_dec _ (by omega)
    unfold atoiAll
    have h45 : (45 : UInt8).toNat = 45 := rfl
    simp only [h45, or_true, if_true, e, not_true_eq_false, false_and, if_false, true_and]
    rw [if_neg (by omega)]
    congr 1
    omega
  · rw [if_neg hn]
    have e : parseMag (decDigits n.toNat) = .ok n.toNat := mag_dec _ (by omega)
    cases hd : decDigits n.toNat with
    | nil => exact absurd hd (dec_ne _)
    | cons c r =>
      have hc := dec_digits n.toNat c (by rw [hd]; simp)
      rw [hd] at e
      unfold atoiAll
      have h1' : ¬ (c.toNat = 43 ∨ c.toNat = 45) := by omega
      have h2' : ¬ (c.toNat = 45) := by omega
      have e3 : ¬ (9223372036854775808 ≤ n.toNat) := by omega
      have e4 : ((n.toNat : Nat) : Int) = n := by omega
      have h5' : ¬ (c.toNat = 43) := by omega
      simp [h5', h2', e, e3, e4]
theorem numP_itoa (n : Int) (h0 : -9223372036854775808 ≤ n) (h1 : n ≤ 9223372036854775807) : numP (itoa n) = some n := by
  unfold numP
  rw [atoi_itoa n h0 h1]
  simp
/-- a number holds neither a space nor an end of a line -/
theorem itoa_chars (n : Int) : ∀ c ∈ itoa n, c.toNat = 45 ∨ (48 ≤ c.toNat ∧ c.toNat ≤ 57) := by
  intro c hc
  unfold itoa at hc
  by_cases hn : n < 0
  · rw [if_pos hn] at hc
    rcases List.mem_cons.1 hc with h | h
    · left; rw [h]; rfl
    · exact .inr (dec_digits _ c h)
  · rw [if_neg hn] at hc
    exact .inr (dec_digits _ c hc)
theorem itoa_no (n : Int) (b : UInt8) (hb : b.toNat < 45) : b ∉ itoa n := fun h => by
  have := itoa_chars n b h
  omega
theorem itoa_ne (n : Int) : itoa n ≠ [] := by
  unfold itoa
  by_cases hn : n < 0
  · rw [if_pos hn]; simp
  · rw [if_neg hn]; exact dec_ne _
theorem itoa_inj {a b : Int} (ha : -9223372036854775808 ≤ a ∧ a ≤ 9223372036854775807) (hb : -9223372036854775808 ≤ b ∧ b ≤ 9223372036854775807) (h : itoa a = itoa b) : a = b := by
  have h1 := numP_itoa a ha.1 ha.2
  have h2 := numP_itoa b hb.1 hb.2
  rw [h, h2] at h1
  exact (Option.some.inj h1).symm
end NumPlain
