/- WALKS: the reference's Bits. -/
import Derived.Test.YtjbhgdhdkjfmnaaDoorRefQuotPlain
import Derived.Test.YtjbhgdhdkjfmnaaDoorQuotWalks2
namespace Go.Proofs.YtjbhgdhdkjfmnaaDoor
open Go Go.RowKit QuotPlain

theorem qbits_pos (P q0 : Nat) (hP : P ≠ 0) : qbits (P : Int) (q0 : Int) = rung P q0 := by
  unfold qbits
  rw [if_neg (by omega)]
  have h : decide ((P : Int) < 0) = false := by rw [decide_eq_false_iff_not]; omega
  rw [h]
  unfold Ieee.Format.word
  simp
theorem qbits_neg (P q0 : Nat) (hP : P ≠ 0) : qbits (-(P : Int)) (q0 : Int) = 2 ^ 63 + rung P q0 := by
  unfold qbits
  rw [if_neg (by omega)]
  have h : decide (-(P : Int) < 0) = true := by rw [decide_eq_true_eq]; omega
  rw [h]
  unfold Ieee.Format.word
  rw [D_sign]
  simp
theorem RefBits_zero (q : Int) (w : World) : Calls Tryd.prog 4 #[.int .i64 0, .int .i64 q] w fun e w' => e = .returned (.int .u64 (qbits 0 q)) ∧ w = w' := by
  have h : qbits 0 q = 0 := by unfold qbits; rw [if_pos rfl]
  rw [h]
  go_enter Tryd.func4, Tryd.ntmps4
  go_wp2
  go_ret
  exact ⟨rfl, rfl⟩

set_option maxHeartbeats 4000000 in
theorem RefBits_some (p : Int) (P q0 sg : Nat) (hP0 : P ≠ 0) (hP : P ≤ 2 ^ 53) (hq0 : q0 ≠ 0) (hq : q0 ≤ 2 ^ 53) (hs : (p = P ∧ sg = 0) ∨ (p = -(P : Int) ∧ sg = 1)) (w : World) :
    Calls Tryd.prog 4 #[.int .i64 p, .int .i64 q0] w fun e w' => e = .returned (.int .u64 ((sg * 2 ^ 63 + rung P q0 : Nat) : Int)) ∧ w = w' := by
  have hP' : P ≤ 9007199254740992 := hP
  have hq' : q0 ≤ 9007199254740992 := hq
  have HPP := Lib.hid hP
  have HQQ := Lib.hid hq
  have HR := Lib.hid (fun a b m PP M h1 h2 h3 h4 h5 h6 => ref_rung (p0 := P) (q0 := q0) (a := a) (b := b) (m := m) (P := PP) (M := M) hP0 hP hq0 hq h1 h2 h3 h4 h5 h6)
  clear hP hq
  rcases hs with ⟨rfl, rfl⟩ | ⟨rfl, rfl⟩
  all_goals
    go_enter Tryd.func4, Tryd.ntmps4
    go_wp2
    go_loop [1, 6] (fun q e => ∃ a qa : Nat, q = .int .i64 qa ∧ e = .int .i64 (1023 + a) ∧ qa = q0 * 2 ^ a ∧ (a = 0 ∨ qa ≤ P) ∧ qa ≤ 9007199254740992 ∧ a ≤ 53) (fun q _ => P + 1 - (intOf q).toNat)
    case atStart => exact ⟨0, q0, rfl, rfl, by simp, .inl rfl, hq', by omega⟩
    case round =>
      obtain ⟨a, qa, rfl, rfl, hqa, haP, hqL, ha53⟩ := hrel
      have Hqa := Lib.hid hqa
      have hqa1 : 1 ≤ qa := by rw [hqa]; exact Nat.mul_pos (by omega) (Nat.two_pow_pos a)
      have HaP := Lib.hid haP
      clear hqa haP
      rcases Int.lt_or_le (P : Int) (2 * (qa : Int)) with hc | hc
      · go_wp2
        go_loop [0, 6] (fun p e => ∃ b pb : Nat, p = .int .i64 pb ∧ e = .int .i64 (1023 + a - b) ∧ pb = P * 2 ^ b ∧ (a = 0 ∨ b = 0) ∧ pb < 2 * qa ∧ 1 ≤ pb ∧ b ≤ 53 ∧ P ≤ pb) (fun p _ => 2 * qa - (intOf p).toNat)
        case atStart => exact ⟨0, P, rfl, by first | rfl | go_num | (show Value.int .i64 _ = Value.int .i64 _; congr 1; omega), by simp, .inr rfl, by omega, by omega, by omega, Nat.le_refl _⟩
        case round =>
          obtain ⟨b, pb, rfl, rfl, hpb, hab, hpq, hpb1, hb53, hPpb⟩ := hrel
          have Hpb := Lib.hid hpb
          have Hab := Lib.hid hab
          clear hpb hab
          rcases Int.lt_or_le (pb : Int) (qa : Int) with hd | hd
          · have ha0 : a = 0 := by
              rcases HaP.out with e | e
              · exact e
              · omega
            have Ha0 := Lib.hid ha0
            have hb' : b + 1 ≤ 53 := by
              have h1 : 1 * 2 ^ b ≤ P * 2 ^ b := Nat.mul_le_mul_right _ (by omega)
              have h2 : 2 ^ b < 2 ^ 53 := by
                have : (2 : Nat) ^ 53 = 9007199254740992 := by decide
                have := Hpb.out
                omega
              have := (Nat.pow_lt_pow_iff_right (a := 2) (by decide)).1 h2
              omega
            clear ha0
            go_wp2
            go_round
            case rel => exact ⟨b + 1, 2 * pb, by go_num, by first | rfl | go_num | (show Value.int .i64 _ = Value.int .i64 _; congr 1; omega), by rw [Hpb.out, Nat.pow_succ ..]; simp only [Nat.mul_comm, Nat.mul_left_comm], .inl Ha0.out, by omega, by omega, by omega, by omega⟩
            case measure => simp only [intOf]; omega
          · go_wp2
            go_loop [0, 7, 8] (fun p m i => ∃ k mm PP : Nat, i = .int .i64 k ∧ k ≤ 53 ∧ m = .int .i64 mm ∧ p = .int .i64 PP ∧ pb * 2 ^ k = 2 * qa * mm + PP ∧ PP < 2 * qa ∧ mm < 2 ^ k) (fun _ _ i => 53 - (intOf i).toNat)
            case atStart => exact ⟨0, 0, pb, rfl, by omega, rfl, rfl, by simp, hpq, by simp⟩
            case round =>
              obtain ⟨k, mm, PP, rfl, hk, rfl, rfl, hdiv, hPP, hmm⟩ := hrel
              have hmL : mm < 9007199254740992 := Nat.lt_of_lt_of_le hmm (show 2 ^ k ≤ 2 ^ 53 from Nat.pow_le_pow_right (by decide) hk)
              have hst := long_step hdiv hPP
              have Hst := Lib.hid hst
              have Hdiv := Lib.hid hdiv
              have Hmm := Lib.hid hmm
              have Hp2 := Lib.hid (Nat.pow_succ 2 k)
              clear hst hdiv hmm
              rcases Nat.lt_or_ge k 53 with hlt | hge
              · rcases Int.lt_or_le (PP : Int) (qa : Int) with he | he
                · go_wp2
                  go_round
                  case rel =>
                    have h := Hst.out.2 (by omega)
                    exact ⟨k + 1, 2 * mm, 2 * PP, by go_num, by omega, by go_num, by go_num, h.1, h.2, by have := Hp2.out; have := Hmm.out; omega⟩
                  case measure => simp only [intOf]; omega
                · go_wp2
                  go_round
                  case rel =>
                    have h := Hst.out.1 (by omega)
                    exact ⟨k + 1, 2 * mm + 1, 2 * (PP - qa), by go_num, by omega, by go_num, by first | rfl | go_num | (show Value.int .i64 _ = Value.int .i64 _; congr 1; omega), h.1, h.2, by have := Hp2.out; have := Hmm.out; omega⟩
                  case measure => simp only [intOf]; omega
              · obtain rfl : k = 53 := by omega
                have HRR := fun M hM => HR.out a b mm PP M Hab.out (by rw [← Hqa.out, ← Hpb.out]; omega) (by rw [← Hqa.out, ← Hpb.out]; omega) (by rw [← Hqa.out, ← Hpb.out]; exact Hdiv.out) (by rw [← Hqa.out]; exact hPP) hM
                rw [← Hqa.out] at HRR
                have HR2 := Lib.hid HRR
                clear HRR
                have hcases : (qa < PP ∧ ∃ M, M = mm + 1 ∧ M = mm + if qa < PP ∨ (PP = qa ∧ mm % 2 = 1) then 1 else 0) ∨ ((PP = qa ∧ mm % 2 = 1) ∧ ∃ M, M = mm + 1 ∧ M = mm + if qa < PP ∨ (PP = qa ∧ mm % 2 = 1) then 1 else 0) ∨ ((PP = qa ∧ mm % 2 = 0) ∧ ∃ M, M = mm ∧ M = mm + if qa < PP ∨ (PP = qa ∧ mm % 2 = 1) then 1 else 0) ∨ (PP < qa ∧ ∃ M, M = mm ∧ M = mm + if qa < PP ∨ (PP = qa ∧ mm % 2 = 1) then 1 else 0) := by
                  by_cases c1 : qa < PP
                  · exact .inl ⟨c1, mm + 1, rfl, by rw [if_pos (.inl c1)]⟩
                  · by_cases c2 : PP = qa ∧ mm % 2 = 1
                    · exact .inr (.inl ⟨c2, mm + 1, rfl, by rw [if_pos (.inr c2)]⟩)
                    · by_cases c3 : PP = qa
                      · exact .inr (.inr (.inl ⟨⟨c3, by omega⟩, mm, rfl, by rw [if_neg (by omega)]; rfl⟩))
                      · exact .inr (.inr (.inr ⟨by omega, mm, rfl, by rw [if_neg (by omega)]; rfl⟩))
                have hlast : decide ((53 : Int) < 53) = false := by decide
                rcases hcases with ⟨c, M, hM1, hM2⟩ | ⟨⟨c, c'⟩, M, hM1, hM2⟩ | ⟨⟨c, c'⟩, M, hM1, hM2⟩ | ⟨c, M, hM1, hM2⟩
                · obtain ⟨hrung, hlo, hhi, hMM⟩ := HR2.out M hM2
                  subst hM1
                  have Hrung := Lib.hid hrung
                  clear hrung hM2
                  have cI : (qa : Int) < (PP : Int) := by omega
                  by_cases hfull : mm + 1 = 2 ^ 53
                  · have hf : ((mm : Int) + 1 == 9007199254740992) = true := by rw [beq_iff_eq]; omega
                    go_wp2
                    all_goals
                      go_ret
                      exact ⟨ret_int (by have := Hrung.out; omega), rfl⟩
                  · have hf : ((mm : Int) + 1 == 9007199254740992) = false := by rw [beq_eq_false_iff_ne]; omega
                    go_wp2
                    all_goals
                      go_ret
                      exact ⟨ret_int (by have := Hrung.out; omega), rfl⟩
                · subst c
                  obtain ⟨hrung, hlo, hhi, hMM⟩ := HR2.out M hM2
                  subst hM1
                  have Hrung := Lib.hid hrung
                  clear hrung hM2
                  have hodd : (mm : Int) % 2 = 1 := by omega
                  have hodd2 : Int.tmod (mm : Int) 2 = 1 := by rw [Int.tmod_eq_emod_of_nonneg (by omega)]; exact hodd
                  by_cases hfull : mm + 1 = 2 ^ 53
                  · have hf : ((mm : Int) + 1 == 9007199254740992) = true := by rw [beq_iff_eq]; omega
                    go_wp2
                    all_goals
                      go_ret
                      exact ⟨ret_int (by have := Hrung.out; omega), rfl⟩
                  · have hf : ((mm : Int) + 1 == 9007199254740992) = false := by rw [beq_eq_false_iff_ne]; omega
                    go_wp2
                    all_goals
                      go_ret
                      exact ⟨ret_int (by have := Hrung.out; omega), rfl⟩
                · subst c
                  obtain ⟨hrung, hlo, hhi, hMM⟩ := HR2.out M hM2
                  obtain rfl : mm = M := hM1.symm
                  have Hrung := Lib.hid hrung
                  clear hrung hM2
                  have hodd : (mm : Int) % 2 = 0 := by omega
                  have hodd2 : Int.tmod (mm : Int) 2 = 0 := by rw [Int.tmod_eq_emod_of_nonneg (by omega)]; exact hodd
                  have hf : ((mm : Int) == 9007199254740992) = false := by rw [beq_eq_false_iff_ne]; omega
                  go_wp2
                  all_goals
                    go_ret
                    exact ⟨ret_int (by have := Hrung.out; omega), rfl⟩
                · obtain ⟨hrung, hlo, hhi, hMM⟩ := HR2.out M hM2
                  obtain rfl : mm = M := hM1.symm
                  have Hrung := Lib.hid hrung
                  clear hrung hM2
                  have cI : (PP : Int) < (qa : Int) := by omega
                  have hf : ((mm : Int) == 9007199254740992) = false := by rw [beq_eq_false_iff_ne]; omega
                  go_wp2
                  all_goals
                    go_ret
                    exact ⟨ret_int (by have := Hrung.out; omega), rfl⟩
      · go_wp2
        go_round
        case rel => exact ⟨a + 1, 2 * qa, by go_num, by first | rfl | go_num | (show Value.int .i64 _ = Value.int .i64 _; congr 1; omega), by rw [Hqa.out, Nat.pow_succ ..]; simp only [Nat.mul_comm, Nat.mul_left_comm], .inr (by omega), by omega, by
          have h1 : 1 * 2 ^ (a + 1) ≤ q0 * 2 ^ (a + 1) := Nat.mul_le_mul_right _ (by omega)
          have h2 : q0 * 2 ^ (a + 1) = 2 * qa := by rw [Hqa.out, Nat.pow_succ ..]; simp only [Nat.mul_comm, Nat.mul_left_comm]
          have h3 : 2 ^ (a + 1) ≤ 2 ^ 53 := by
            have : (2 : Nat) ^ 53 = 9007199254740992 := by decide
            omega
          exact two_pow_lt _ _ h3⟩
        case measure => simp only [intOf]; omega

theorem RefBits_any (p q : Int) (hp : okP p) (hq : okQ q) (w : World) :
    Calls Tryd.prog 4 #[.int .i64 p, .int .i64 q] w fun e w' => e = .returned (.int .u64 (qbits p q)) ∧ w = w' := by
  obtain ⟨p1, p2⟩ := hp
  obtain ⟨q1, q2⟩ := hq
  obtain ⟨q0, rfl⟩ := Int.eq_ofNat_of_zero_le (show 0 ≤ q by omega)
  rcases Int.lt_trichotomy p 0 with h | h | h
  · obtain ⟨P, hP⟩ := Int.eq_ofNat_of_zero_le (show 0 ≤ -p by omega)
    obtain rfl : p = -(P : Int) := by omega
    have := RefBits_some (-(P : Int)) P q0 1 (by omega) (by omega) (by omega) (by omega) (.inr ⟨rfl, rfl⟩) w
    rw [qbits_neg P q0 (by omega)]
    rw [Nat.one_mul] at this
    exact this
  · subst h; exact RefBits_zero _ w
  · obtain ⟨P, rfl⟩ := Int.eq_ofNat_of_zero_le (show 0 ≤ p by omega)
    have := RefBits_some (P : Int) P q0 0 (by omega) (by omega) (by omega) (by omega) (.inl ⟨rfl, rfl⟩) w
    rw [qbits_pos P q0 (by omega)]
    rw [Nat.zero_mul, Nat.zero_add] at this
    exact this

end Go.Proofs.YtjbhgdhdkjfmnaaDoor
