/- PLAIN LAW: the quotient bit by bit; the order of quotients by whole parts (no program in sight). -/
import Derived.Test.YtjbhgdhdkjfmnaaDoorQuotPlain
namespace Go.Proofs.YtjbhgdhdkjfmnaaDoor.QuotPlain

theorem two_pow_lt (a b : Nat) (h : 2 ^ a ≤ 2 ^ b) : a ≤ b := (Nat.pow_le_pow_iff_right (by decide)).1 h
theorem shift_bounds {p0 q0 a b : Nat} (hp0 : p0 ≠ 0) (hp : p0 ≤ 2 ^ 53) (hq0 : q0 ≠ 0) (hq : q0 ≤ 2 ^ 53) (hab : a = 0 ∨ b = 0) (h1 : q0 * 2 ^ a ≤ p0 * 2 ^ b) (h2 : p0 * 2 ^ b < 2 * (q0 * 2 ^ a)) : a ≤ 53 ∧ b ≤ 53 := by
  rcases hab with rfl | rfl
  · refine ⟨Nat.zero_le _, ?_⟩
    have h3 : 1 * 2 ^ b ≤ p0 * 2 ^ b := Nat.mul_le_mul_right _ (by omega)
    have h4 : 2 ^ b < 2 ^ 54 := by
      have : (2 : Nat) ^ 54 = 2 * 2 ^ 53 := by decide
      omega
    have := (Nat.pow_lt_pow_iff_right (a := 2) (by decide)).1 h4
    omega
  · refine ⟨?_, Nat.zero_le _⟩
    have h3 : 1 * 2 ^ a ≤ q0 * 2 ^ a := Nat.mul_le_mul_right _ (by omega)
    exact two_pow_lt _ _ (by omega)
theorem ref_lg {p0 q0 a b : Nat} (hq0 : q0 ≠ 0) (hb : b ≤ 53) (h1 : q0 * 2 ^ a ≤ p0 * 2 ^ b) (h2 : p0 * 2 ^ b < 2 * (q0 * 2 ^ a)) : lg p0 q0 = 60 + a - b := by
  have e1 : 2 ^ b * 2 ^ (60 - b) = 2 ^ 60 := by rw [← Nat.pow_add]; congr 1; omega
  have e2 : 2 ^ a * 2 ^ (60 - b) = 2 ^ (60 + a - b) := by rw [← Nat.pow_add]; congr 1; omega
  refine lg_unique p0 q0 _ hq0 ?_ ?_
  · have := Nat.mul_le_mul_right (2 ^ (60 - b)) h1
    rw [Nat.mul_assoc, Nat.mul_assoc, e1, e2] at this
    rw [Nat.mul_comm]; exact this
  · have := Nat.mul_lt_mul_of_pos_right h2 (Nat.two_pow_pos (60 - b))
    rw [Nat.mul_assoc, Nat.mul_assoc, Nat.mul_assoc, e1, e2] at this
    have e4 : 2 ^ (60 + a - b + 1) = 2 ^ (60 + a - b) * 2 := Nat.pow_succ ..
    rw [e4]
    have e3 : 2 * (q0 * 2 ^ (60 + a - b)) = 2 ^ (60 + a - b) * 2 * q0 := by rw [Nat.mul_comm q0, ← Nat.mul_assoc, Nat.mul_comm 2]
    omega
theorem ref_rung {p0 q0 a b m P M : Nat} (hp0 : p0 ≠ 0) (hp : p0 ≤ 2 ^ 53) (hq0 : q0 ≠ 0) (hq : q0 ≤ 2 ^ 53) (hab : a = 0 ∨ b = 0) (h1 : q0 * 2 ^ a ≤ p0 * 2 ^ b) (h2 : p0 * 2 ^ b < 2 * (q0 * 2 ^ a))
    (hm : p0 * 2 ^ b * 2 ^ 53 = 2 * (q0 * 2 ^ a) * m + P) (hP : P < 2 * (q0 * 2 ^ a)) (hM : M = m + if q0 * 2 ^ a < P ∨ (P = q0 * 2 ^ a ∧ m % 2 = 1) then 1 else 0) :
    rung p0 q0 = (1022 + a - b) * 2 ^ 52 + M ∧ 2 ^ 52 ≤ m ∧ m < 2 ^ 53 ∧ M ≤ 2 ^ 53 := by
  obtain ⟨ba, bb⟩ := shift_bounds hp0 hp hq0 hq hab h1 h2
  have hl := ref_lg hq0 bb h1 h2
  have hq1 : 0 < q0 * 2 ^ a := Nat.mul_pos (by omega) (Nat.two_pow_pos a)
  have hdiv : p0 * 2 ^ b * 2 ^ 53 / (2 * (q0 * 2 ^ a)) = m := by
    rw [hm, Nat.add_comm, Nat.add_mul_div_left _ _ (by omega), Nat.div_eq_of_lt hP]; omega
  have hmod : p0 * 2 ^ b * 2 ^ 53 % (2 * (q0 * 2 ^ a)) = P := by
    rw [hm, Nat.add_comm, Nat.add_mul_mod_self_left, Nat.mod_eq_of_lt hP]
  have hr : rne (p0 * 2 ^ b * 2 ^ 53) (2 * (q0 * 2 ^ a)) = M := by
    unfold rne
    rw [hdiv, hmod, hM]
    congr 1
    by_cases c : q0 * 2 ^ a < P ∨ (P = q0 * 2 ^ a ∧ m % 2 = 1)
    · rw [if_pos c, if_pos]; omega
    · rw [if_neg c, if_neg]; omega
  have hr2 : rne (p0 * 2 ^ (113 - lg p0 q0)) (2 * q0) = rne (p0 * 2 ^ b * 2 ^ 53) (2 * (q0 * 2 ^ a)) := by
    refine rne_ratio _ _ _ _ (by omega) (by omega) ?_
    rw [hl]
    have e : 2 ^ (113 - (60 + a - b)) * 2 ^ a = 2 ^ b * 2 ^ 53 := by rw [← Nat.pow_add, ← Nat.pow_add]; congr 1; omega
    calc p0 * 2 ^ (113 - (60 + a - b)) * (2 * (q0 * 2 ^ a)) = p0 * (2 * q0) * (2 ^ (113 - (60 + a - b)) * 2 ^ a) := by
          simp only [Nat.mul_comm, Nat.mul_left_comm, Nat.mul_assoc]
      _ = p0 * 2 ^ b * 2 ^ 53 * (2 * q0) := by rw [e]; simp only [Nat.mul_comm, Nat.mul_left_comm, Nat.mul_assoc]
  have hlo : 2 ^ 52 ≤ m := by
    rw [← hdiv, Nat.le_div_iff_mul_le (by omega)]
    have : 2 ^ 52 * (2 * (q0 * 2 ^ a)) = q0 * 2 ^ a * 2 ^ 53 := by
      rw [show (2 : Nat) ^ 53 = 2 ^ 52 * 2 by decide]; simp only [Nat.mul_comm, Nat.mul_left_comm, Nat.mul_assoc]
    rw [this]; exact Nat.mul_le_mul_right _ h1
  have hhi : m < 2 ^ 53 := by
    rw [← hdiv, Nat.div_lt_iff_lt_mul (by omega)]
    rw [Nat.mul_comm (2 ^ 53)]
    exact Nat.mul_lt_mul_of_pos_right h2 (by decide)
  refine ⟨?_, hlo, hhi, by rw [hM]; split <;> omega⟩
  unfold rung
  rw [hr2, hr, hl]
  congr 2
  omega
/-- one step of long division -/
theorem long_step {p1 q1 m P i : Nat} (h : p1 * 2 ^ i = 2 * q1 * m + P) (hP : P < 2 * q1) :
    (q1 ≤ P → p1 * 2 ^ (i + 1) = 2 * q1 * (2 * m + 1) + 2 * (P - q1) ∧ 2 * (P - q1) < 2 * q1) ∧ (P < q1 → p1 * 2 ^ (i + 1) = 2 * q1 * (2 * m) + 2 * P ∧ 2 * P < 2 * q1) := by
  have e0 : 2 ^ (i + 1) = 2 ^ i * 2 := Nat.pow_succ ..
  have e : p1 * 2 ^ (i + 1) = 2 * (2 * q1 * m) + 2 * P := by rw [e0, ← Nat.mul_assoc, h]; omega
  have e2 : 2 * q1 * (2 * m) = 2 * (2 * q1 * m) := by rw [Nat.mul_left_comm]
  refine ⟨fun hc => ⟨?_, by omega⟩, fun hc => ⟨by omega, by omega⟩⟩
  rw [Nat.mul_add, e2]; omega

/-! ### the order -/
theorem less_whole {p q r s x y : Int} (hq : 0 < q) (hs : 0 < s) (hx : x * q ≤ p ∧ p < x * q + q) (hy : y * s ≤ r ∧ r < y * s + s) (hne : x ≠ y) : p * s < r * q ↔ x < y := by
  obtain ⟨x1, x2⟩ := hx
  obtain ⟨y1, y2⟩ := hy
  have a1 := Int.mul_le_mul_of_nonneg_right x1 (show 0 ≤ s by omega)
  have a2 := Int.mul_lt_mul_of_pos_right x2 hs
  have b1 := Int.mul_le_mul_of_nonneg_right y1 (show 0 ≤ q by omega)
  have b2 := Int.mul_lt_mul_of_pos_right y2 hq
  rw [Int.add_mul] at a2 b2
  have e1 : x * q * s = x * (q * s) := Int.mul_assoc _ _ _
  have e2 : y * s * q = y * (q * s) := by rw [Int.mul_assoc, Int.mul_comm s]
  have e3 : s * q = q * s := Int.mul_comm _ _
  have hqs : 0 < q * s := Int.mul_pos hq hs
  rw [e1] at a1 a2
  rw [e2] at b1 b2
  rw [e3] at b2
  constructor
  · intro h
    rcases Int.lt_or_le x y with c | c
    · exact c
    · have c2 : y + 1 ≤ x := by omega
      have := Int.mul_le_mul_of_nonneg_right c2 (show 0 ≤ q * s by omega)
      rw [Int.add_mul, Int.one_mul] at this
      omega
  · intro h
    have := Int.mul_le_mul_of_nonneg_right (show x + 1 ≤ y by omega) (show 0 ≤ q * s by omega)
    rw [Int.add_mul, Int.one_mul] at this
    omega
theorem less_rest {p q r s x : Int} : p * s < r * q ↔ (p - x * q) * s < (r - x * s) * q := by
  rw [Int.sub_mul, Int.sub_mul]
  have : x * q * s = x * s * q := by rw [Int.mul_assoc, Int.mul_assoc, Int.mul_comm q]
  omega
end Go.Proofs.YtjbhgdhdkjfmnaaDoor.QuotPlain
