/- WALK: quot.Less where its numbers may be. -/
import Derived.Test.YtjbhgdhdkjfmnaaDoorQuotWalks
namespace Go.Proofs.YtjbhgdhdkjfmnaaDoor
open Go Go.RowKit QuotPlain

/-- by high and low words -/
theorem words (X Y : Nat) : (X < Y ↔ X / 18446744073709551616 < Y / 18446744073709551616 ∨ (X / 18446744073709551616 = Y / 18446744073709551616 ∧ X % 18446744073709551616 < Y % 18446744073709551616)) := by omega

theorem lessB_pos (p q r s : Nat) : lessB p q r s = decide (p * s < r * q) := by
  unfold lessB
  rw [← Int.natCast_mul, ← Int.natCast_mul]
  simp only [Int.ofNat_lt]
theorem lessB_neg (p q r s : Nat) : lessB (-(p : Int)) q (-(r : Int)) s = decide (r * q < p * s) := by
  unfold lessB
  rw [Int.neg_mul, Int.neg_mul, ← Int.natCast_mul, ← Int.natCast_mul, decide_eq_decide]
  omega

set_option maxHeartbeats 1000000 in
theorem Less_yes (p q r s : Int) (hp : okP p) (hq : okQ q) (hr : okP r) (hs : okQ s) (w : World) :
    Calls Tryd.prog 8 #[.int .i64 p, .int .i64 q, .int .i64 r, .int .i64 s] w fun e w' => e = .returned (.tuple #[.bool (lessB p q r s), .nilIface]) ∧ w = w' := by
  have i0 := fun w => index4_0 (.int .i64 p) (.int .i64 q) (.int .i64 r) (.int .i64 s) w
  have i1 := fun w => index4_1 (.int .i64 p) (.int .i64 q) (.int .i64 r) (.int .i64 s) w
  have i2 := fun w => index4_2 (.int .i64 p) (.int .i64 q) (.int .i64 r) (.int .i64 s) w
  have i3 := fun w => index4_3 (.int .i64 p) (.int .i64 q) (.int .i64 r) (.int .i64 s) w
  obtain ⟨p1, p2⟩ := hp
  obtain ⟨r1, r2⟩ := hr
  obtain ⟨q1, q2⟩ := hq
  obtain ⟨s1, s2⟩ := hs
  go_enter Tryd.func8, Tryd.ntmps8
  go_wp2
  go_loop [22] (fun i => ∃ k : Nat, k ≤ 4 ∧ i = .int .i64 k) (fun i => 4 - (intOf i).toNat)
  case atStart => exact ⟨0, Nat.zero_le _, rfl⟩
  case round =>
    obtain ⟨k, hk, rfl⟩ := hrel
    have hk4 : k = 0 ∨ k = 1 ∨ k = 2 ∨ k = 3 ∨ k = 4 := by omega
    rcases hk4 with rfl | rfl | rfl | rfl | rfl
    · go_wp2_with (go_at_call 9; refine (within_yes p _ _ p1 p2 _).mono ?_; rintro e w' ⟨rfl, rfl⟩)
      go_round
      case rel => exact ⟨1, by omega, rfl⟩
      case measure => simp only [intOf]; omega
    · go_wp2_with (go_at_call 9; refine (within_yes q _ _ (by omega) q2 _).mono ?_; rintro e w' ⟨rfl, rfl⟩)
      go_round
      case rel => exact ⟨2, by omega, rfl⟩
      case measure => simp only [intOf]; omega
    · go_wp2_with (go_at_call 9; refine (within_yes r _ _ r1 r2 _).mono ?_; rintro e w' ⟨rfl, rfl⟩)
      go_round
      case rel => exact ⟨3, by omega, rfl⟩
      case measure => simp only [intOf]; omega
    · go_wp2_with (go_at_call 9; refine (within_yes s _ _ (by omega) s2 _).mono ?_; rintro e w' ⟨rfl, rfl⟩)
      go_round
      case rel => exact ⟨4, by omega, rfl⟩
      case measure => simp only [intOf]; omega
    · obtain ⟨Q, rfl⟩ := Int.eq_ofNat_of_zero_le (show 0 ≤ q by omega)
      obtain ⟨S, rfl⟩ := Int.eq_ofNat_of_zero_le (show 0 ≤ s by omega)
      rcases Int.lt_or_le p 0 with hp | hp
      · obtain ⟨P, hP⟩ := Int.eq_ofNat_of_zero_le (show 0 ≤ -p by omega)
        obtain rfl : p = -(P : Int) := by omega
        have hP0 : 0 < P := by omega
        rcases Int.lt_or_le r 0 with hr | hr
        · obtain ⟨R, hR⟩ := Int.eq_ofNat_of_zero_le (show 0 ≤ -r by omega)
          obtain rfl : r = -(R : Int) := by omega
          have hR0 : 0 < R := by omega
          have HL : Hid (lessB (-(P : Int)) Q (-(R : Int)) S = decide (R * Q < P * S)) := lessB_neg P Q R S
          have HW : Hid _ := words (R * Q) (P * S)
          generalize hX : P * S = X at HL HW
          generalize hY : R * Q = Y at HL HW
          have HX := Lib.hid hX
          have HY := Lib.hid hY
          clear hX hY hP hR hp hr
          go_wp2_with fail
          refine (Mul64_any P S (by omega) (by omega) _).mono ?_
          rintro e w' ⟨rfl, rfl⟩
          rw [HX.out]
          generalize hc1 : X / 18446744073709551616 = x1 at HW ⊢
          generalize hc2 : X % 18446744073709551616 = x2 at HW ⊢
          clear hc1 hc2
          go_wp2_with fail
          refine (Mul64_any R Q (by omega) (by omega) _).mono ?_
          rintro e w' ⟨rfl, rfl⟩
          rw [HY.out]
          generalize hc3 : Y / 18446744073709551616 = y1 at HW ⊢
          generalize hc4 : Y % 18446744073709551616 = y2 at HW ⊢
          clear hc3 hc4
          rcases Nat.lt_trichotomy y1 x1 with h1 | rfl | h1
          · go_wp2
            go_ret2
            exact ⟨by rw [HL.out.trans (decide_eq_true (HW.out.2 (.inl h1)))]; rfl, rfl⟩
          · rcases Nat.lt_or_ge y2 x2 with h2 | h2
            · go_wp2
              go_ret2
              exact ⟨by rw [HL.out.trans (decide_eq_true (HW.out.2 (.inr ⟨by first | rfl | trivial, h2⟩)))]; rfl, rfl⟩
            · have hd : decide (y2 < x2) = false := by simp; omega
              go_wp2
              go_ret2
              exact ⟨by rw [HL.out.trans (decide_eq_false (fun h => by have := HW.out.1 h; omega))]; rfl, rfl⟩
          · have h1' : ((y1 : Int) == (x1 : Int)) = false := by rw [beq_eq_false_iff_ne]; omega
            have hd : decide (y1 < x1) = false := by simp; omega
            go_wp2
            go_ret2
            exact ⟨by rw [HL.out.trans (decide_eq_false (fun h => by have := HW.out.1 h; omega))]; rfl, rfl⟩
        · have HL : Hid (lessB (-(P : Int)) Q r S = true) := by
            refine decide_eq_true ?_
            have a : (-(P : Int)) * S < 0 := Int.mul_neg_of_neg_of_pos hp (by omega)
            have b : 0 ≤ r * Q := Int.mul_nonneg hr (by omega)
            omega
          clear hP hp
          have hd : decide (r < 0) = false := by simp; omega
          go_wp2
          go_ret2
          exact ⟨by rw [HL.out]; rfl, rfl⟩
      · rcases Int.lt_or_le r 0 with hr | hr
        · have HL : Hid (lessB p Q r S = false) := by
            refine decide_eq_false ?_
            have a : r * Q < 0 := Int.mul_neg_of_neg_of_pos hr (by omega)
            have b : 0 ≤ p * S := Int.mul_nonneg hp (by omega)
            omega
          have hd : decide (p < 0) = false := by simp; omega
          go_wp2
          go_ret2
          exact ⟨by rw [HL.out]; rfl, rfl⟩
        · obtain ⟨P, rfl⟩ := Int.eq_ofNat_of_zero_le hp
          obtain ⟨R, rfl⟩ := Int.eq_ofNat_of_zero_le hr
          have HL : Hid (lessB P Q R S = decide (P * S < R * Q)) := lessB_pos P Q R S
          have HW : Hid _ := words (P * S) (R * Q)
          generalize hX : P * S = X at HL HW
          generalize hY : R * Q = Y at HL HW
          have HX := Lib.hid hX
          have HY := Lib.hid hY
          clear hX hY
          go_wp2_with fail
          refine (Mul64_any P S (by omega) (by omega) _).mono ?_
          rintro e w' ⟨rfl, rfl⟩
          rw [HX.out]
          generalize hc1 : X / 18446744073709551616 = x1 at HW ⊢
          generalize hc2 : X % 18446744073709551616 = x2 at HW ⊢
          clear hc1 hc2
          go_wp2_with fail
          refine (Mul64_any R Q (by omega) (by omega) _).mono ?_
          rintro e w' ⟨rfl, rfl⟩
          rw [HY.out]
          generalize hc3 : Y / 18446744073709551616 = y1 at HW ⊢
          generalize hc4 : Y % 18446744073709551616 = y2 at HW ⊢
          clear hc3 hc4
          rcases Nat.lt_trichotomy x1 y1 with h1 | rfl | h1
          · go_wp2
            go_ret2
            exact ⟨by rw [HL.out.trans (decide_eq_true (HW.out.2 (.inl h1)))]; rfl, rfl⟩
          · rcases Nat.lt_or_ge x2 y2 with h2 | h2
            · go_wp2
              go_ret2
              exact ⟨by rw [HL.out.trans (decide_eq_true (HW.out.2 (.inr ⟨by first | rfl | trivial, h2⟩)))]; rfl, rfl⟩
            · have hd : decide (x2 < y2) = false := by simp; omega
              go_wp2
              go_ret2
              exact ⟨by rw [HL.out.trans (decide_eq_false (fun h => by have := HW.out.1 h; omega))]; rfl, rfl⟩
          · have h1' : ((x1 : Int) == (y1 : Int)) = false := by rw [beq_eq_false_iff_ne]; omega
            have hd : decide (x1 < y1) = false := by simp; omega
            go_wp2
            go_ret2
            exact ⟨by rw [HL.out.trans (decide_eq_false (fun h => by have := HW.out.1 h; omega))]; rfl, rfl⟩
end Go.Proofs.YtjbhgdhdkjfmnaaDoor
