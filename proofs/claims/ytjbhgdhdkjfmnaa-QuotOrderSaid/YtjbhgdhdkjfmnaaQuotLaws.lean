/- WALKS: the laws QuotFloat and QuotOrder return true. -/
import Derived.Test.YtjbhgdhdkjfmnaaQuotWalks2
namespace Go.Proofs.Ytjbhgdhdkjfmnaa
open Go Go.RowKit QuotPlain

theorem qbits_half : qbits 1 2 = 4602678819172646912 := by decide
theorem lessB_thirds : lessB 1 3 1 2 = true := by decide
theorem okP_dec (p : Int) : okP p ∨ ¬ okP p := Classical.em _

/-- both quotients may be -/
def ok4 (p q r s : Int) : Prop := okP p ∧ okQ q ∧ okP r ∧ okQ s

theorem ord_le {x y : Nat} (h : QuotPlain.D.order x y = some .lt ∨ QuotPlain.D.order x y = some .eq) :
    (FloatKind.f64.format.order x y == some .lt || FloatKind.f64.format.order x y == some .eq) = true := by
  have e : FloatKind.f64.format.order x y = QuotPlain.D.order x y := rfl
  rw [e]; rcases h with h | h <;> rw [h] <;> rfl
theorem ord_ge {x y : Nat} (h : QuotPlain.D.order x y = some .gt ∨ QuotPlain.D.order x y = some .eq) :
    (FloatKind.f64.format.order x y == some .gt || FloatKind.f64.format.order x y == some .eq) = true := by
  have e : FloatKind.f64.format.order x y = QuotPlain.D.order x y := rfl
  rw [e]; rcases h with h | h <;> rw [h] <;> rfl

theorem QuotFloat_walk (p q r s : Int) (w : World) :
    Calls Try.prog 3 #[.int .i64 p, .int .i64 q, .int .i64 r, .int .i64 s] w fun e w' => e = .returned (.bool true) ∧ w = w' := by
  have f1 : okP 1 := ⟨by omega, by omega⟩
  have f2 : okQ 2 := ⟨by omega, by omega⟩
  by_cases h1 : okP p ∧ okQ q
  · by_cases h2 : okP r ∧ okQ s
    · obtain ⟨hp, hq⟩ := h1
      obtain ⟨hr, hs⟩ := h2
      have hd := fun w => run_float_arith (P := Try.prog) w .quo 27 .f64 (floatOfInt .f64 p) (floatOfInt .f64 q) (qbits p q) (go_quo p q hp.1 hp.2 hq.1 hq.2)
      have hd' := fun w => run_float_arith (P := Try.prog) w .quo 27 .f64 (floatOfInt .f64 r) (floatOfInt .f64 s) (qbits r s) (go_quo r s hr.1 hr.2 hs.1 hs.2)
      have hb1 := fun w => run_bits (qbits p q) w
      have hb2 := fun w => run_bits (qbits r s) w
      have ho := qbits_order p q r s hp.1 hp.2 hq.1 hq.2 hr.1 hr.2 hs.1 hs.2
      have hc1 : lessB p q r s = true → (FloatKind.f64.format.order (qbits p q) (qbits r s) == some .lt || FloatKind.f64.format.order (qbits p q) (qbits r s) == some .eq) = true := fun h => ord_le (ho.1 (by have := of_decide_eq_true h; omega))
      have hc2 : lessB p q r s = false → (FloatKind.f64.format.order (qbits p q) (qbits r s) == some .gt || FloatKind.f64.format.order (qbits p q) (qbits r s) == some .eq) = true := fun h => ord_ge (ho.2 (by have := of_decide_eq_false h; omega))
      have Hc1 := Lib.hid hc1
      have Hc2 := Lib.hid hc2
      have B1 := fun w => Bits_yes p q hp hq w
      have B2 := fun w => Bits_yes r s hr hs w
      have L := fun w => Less_yes p q r s hp hq hr hs w
      clear ho hc1 hc2
      generalize qbits p q = X at *
      generalize qbits r s = Y at *
      have HB1 := Lib.hid B1
      have HB2 := Lib.hid B2
      have HL := Lib.hid L
      clear B1 B2 L
      go_enter Try.func3, Try.ntmps3
      go_wp2_with fail
      refine (Bits_yes 1 2 f1 f2 _).mono ?_
      rintro e w' ⟨rfl, rfl⟩
      rw [qbits_half]
      go_wp2_with fail
      refine (HB1.out _).mono ?_
      rintro e w' ⟨rfl, rfl⟩
      go_wp2_with fail
      refine (HB2.out _).mono ?_
      rintro e w' ⟨rfl, rfl⟩
      go_wp2_with fail
      refine (HL.out _).mono ?_
      rintro e w' ⟨rfl, rfl⟩
      cases hl : lessB p q r s
      · have hc := Hc2.out hl
        clear hl
        go_wp2
        go_ret
        exact ⟨rfl, rfl⟩
      · have hc := Hc1.out hl
        clear hl
        go_wp2
        go_ret
        exact ⟨rfl, rfl⟩
    · obtain ⟨hp, hq⟩ := h1
      have H2 := Lib.hid h2
      have Hp := Lib.hid hp
      have Hq := Lib.hid hq
      clear h2 hp hq
      generalize hX : qbits p q = X
      have HX := Lib.hid hX
      clear hX
      go_enter Try.func3, Try.ntmps3
      go_wp2_with fail
      refine (Bits_yes 1 2 f1 f2 _).mono ?_
      rintro e w' ⟨rfl, rfl⟩
      rw [qbits_half]
      go_wp2_with fail
      refine (Bits_yes p q Hp.out Hq.out _).mono ?_
      rintro e w' ⟨rfl, rfl⟩
      rw [HX.out]
      go_wp2_with fail
      refine (Bits_no r s H2.out _).mono ?_
      rintro e w' ⟨rfl, rfl⟩
      go_wp2
      all_goals
        go_ret
        exact ⟨by first | rfl | simp, rfl⟩
  · have H1 := Lib.hid h1
    clear h1
    by_cases h2 : okP r ∧ okQ s
    · obtain ⟨hr, hs⟩ := h2
      have Hr := Lib.hid hr
      have Hs := Lib.hid hs
      clear hr hs
      generalize hY : qbits r s = Y
      have HY := Lib.hid hY
      clear hY
      go_enter Try.func3, Try.ntmps3
      go_wp2_with fail
      refine (Bits_yes 1 2 f1 f2 _).mono ?_
      rintro e w' ⟨rfl, rfl⟩
      rw [qbits_half]
      go_wp2_with fail
      refine (Bits_no p q H1.out _).mono ?_
      rintro e w' ⟨rfl, rfl⟩
      go_wp2_with fail
      refine (Bits_yes r s Hr.out Hs.out _).mono ?_
      rintro e w' ⟨rfl, rfl⟩
      rw [HY.out]
      go_wp2
      go_ret
      exact ⟨rfl, rfl⟩
    · have H2 := Lib.hid h2
      clear h2
      go_enter Try.func3, Try.ntmps3
      go_wp2_with fail
      refine (Bits_yes 1 2 f1 f2 _).mono ?_
      rintro e w' ⟨rfl, rfl⟩
      rw [qbits_half]
      go_wp2_with fail
      refine (Bits_no p q H1.out _).mono ?_
      rintro e w' ⟨rfl, rfl⟩
      go_wp2_with fail
      refine (Bits_no r s H2.out _).mono ?_
      rintro e w' ⟨rfl, rfl⟩
      go_wp2
      go_ret
      exact ⟨rfl, rfl⟩

/-! ### QuotOrder -/
theorem less_asym (p q r s : Int) : ¬ (lessB p q r s = true ∧ lessB r s p q = true) := by
  rintro ⟨h1, h2⟩
  have := of_decide_eq_true h1
  have := of_decide_eq_true h2
  omega
theorem less_same (p q r s : Int) : ((!lessB p q r s && !lessB r s p q) != (p * s == r * q)) = false := by
  rw [bne_eq_false_iff_eq, Bool.eq_iff_iff]
  unfold lessB
  simp only [Bool.and_eq_true, Bool.not_eq_true', decide_eq_false_iff_not, beq_iff_eq]
  omega
theorem less_trans (p q r s t u : Int) (hq : okQ q) (hs : okQ s) (hu : okQ u) (h1 : lessB p q r s = true) (h2 : lessB r s t u = true) : lessB p q t u = true := by
  have a := of_decide_eq_true h1
  have b := of_decide_eq_true h2
  refine decide_eq_true ?_
  have q0 := hq.1
  have s0 := hs.1
  have u0 := hu.1
  have a' : p * s * u < r * q * u := Int.mul_lt_mul_of_pos_right a (by omega)
  have b' : r * u * q < t * s * q := Int.mul_lt_mul_of_pos_right b (by omega)
  have e1 : r * q * u = r * u * q := Int.mul_right_comm _ _ _
  have e2 : p * s * u = p * u * s := Int.mul_right_comm _ _ _
  have e3 : t * s * q = t * q * s := Int.mul_right_comm _ _ _
  rw [e1, e2] at a'
  rw [e3] at b'
  exact Int.lt_of_mul_lt_mul_right (Int.lt_trans a' b') (by omega)
theorem less_scale (p q r s k : Int) (hk : 1 ≤ k) : lessB (p * k) (q * k) r s = lessB p q r s := by
  unfold lessB
  rw [decide_eq_decide, Int.mul_right_comm p k s, ← Int.mul_assoc r q k]
  constructor
  · intro h; exact Int.lt_of_mul_lt_mul_right h (by omega)
  · intro h; exact Int.mul_lt_mul_of_pos_right h (by omega)

theorem mul_small {p k : Int} {A B : Int} (h1 : -A ≤ p) (h2 : p ≤ A) (h3 : 0 ≤ k) (h4 : k ≤ B) (hA : 0 ≤ A) : -(A * B) ≤ p * k ∧ p * k ≤ A * B := by
  have a : p * k ≤ A * k := Int.mul_le_mul_of_nonneg_right h2 h3
  have b : -A * k ≤ p * k := Int.mul_le_mul_of_nonneg_right h1 h3
  have c : A * k ≤ A * B := Int.mul_le_mul_of_nonneg_left h4 hA
  rw [Int.neg_mul] at b
  omega

set_option maxRecDepth 100000 in
set_option maxHeartbeats 2000000 in
theorem QuotOrder_walk (p q r s t u k : Int) (w : World) :
    Calls Try.prog 4 #[.int .i64 p, .int .i64 q, .int .i64 r, .int .i64 s, .int .i64 t, .int .i64 u, .int .i64 k] w fun e w' => e = .returned (.bool true) ∧ w = w' := by
  have f1 : okP 1 := ⟨by omega, by omega⟩
  have f2 : okQ 2 := ⟨by omega, by omega⟩
  have f3 : okQ 3 := ⟨by omega, by omega⟩
  by_cases h : okP p ∧ okQ q ∧ okP r ∧ okQ s
  · obtain ⟨hp, hq, hr, hs⟩ := h
    have L1 : Hid (∀ w, _) := fun w => Less_yes p q r s hp hq hr hs w
    have L2 : Hid (∀ w, _) := fun w => Less_yes r s p q hr hs hp hq w
    have A1 : Hid _ := less_asym p q r s
    have A2 : Hid _ := less_same p q r s
    have B1 : Hid (∀ w, _) := fun w => Bits_yes p q hp hq w
    have L5 : Hid (1 ≤ k → k ≤ 1000 → p ≤ 1000000000 → -1000000000 ≤ p → q ≤ 1000000000 → ∀ w, Calls Try.prog 7 #[.int .i64 (p * k), .int .i64 (q * k), .int .i64 r, .int .i64 s] w fun e w' => e = .returned (.tuple #[.bool (lessB p q r s), .nilIface]) ∧ w = w') := by
      intro k1 k2 p1 p2 q1 w
      have a := mul_small (k := k) (A := 1000000000) (B := 1000) p2 p1 (by omega) k2 (by omega)
      have b := mul_small (p := q) (k := k) (A := 1000000000) (B := 1000) (by have := hq.1; omega) q1 (by omega) k2 (by omega)
      have c : 1 * 1 ≤ q * k := Int.mul_le_mul hq.1 k1 (by omega) (by have := hq.1; omega)
      rw [← less_scale p q r s k k1]
      exact Less_yes (p * k) (q * k) r s ⟨by omega, by omega⟩ ⟨by omega, by omega⟩ hr hs w
    have B2 : Hid (1 ≤ k → k ≤ 1000 → p ≤ 1000000000 → -1000000000 ≤ p → q ≤ 1000000000 → ∀ w, Calls Try.prog 5 #[.int .i64 (p * k), .int .i64 (q * k)] w fun e w' => e = .returned (.tuple #[.int .u64 (qbits p q), .nilIface]) ∧ w = w') := by
      intro k1 k2 p1 p2 q1 w
      have a := mul_small (k := k) (A := 1000000000) (B := 1000) p2 p1 (by omega) k2 (by omega)
      have b := mul_small (p := q) (k := k) (A := 1000000000) (B := 1000) (by have := hq.1; omega) q1 (by omega) k2 (by omega)
      have c : 1 * 1 ≤ q * k := Int.mul_le_mul hq.1 k1 (by omega) (by have := hq.1; omega)
      rw [← qbits_scale p q k (by omega) (by omega) hq.1 (by omega) k1 hp.1 hp.2 hq.2]
      exact Bits_yes (p * k) (q * k) ⟨by omega, by omega⟩ ⟨by omega, by omega⟩ w
    have MB : Hid (1 ≤ k → k ≤ 1000 → p ≤ 1000000000 → -1000000000 ≤ p → q ≤ 1000000000 → (-1000000000000 ≤ p * k ∧ p * k ≤ 1000000000000) ∧ (-1000000000000 ≤ q * k ∧ q * k ≤ 1000000000000)) := by
      intro k1 k2 p1 p2 q1
      have a := mul_small (k := k) (A := 1000000000) (B := 1000) p2 p1 (by omega) k2 (by omega)
      have b := mul_small (p := q) (k := k) (A := 1000000000) (B := 1000) (by have := hq.1; omega) q1 (by omega) k2 (by omega)
      omega
    have MS : Hid (-1000000 < p → p < 1000000 → -1000000 < r → r < 1000000 → q < 1000000 → s < 1000000 → (-1000000000000 ≤ p * s ∧ p * s ≤ 1000000000000) ∧ (-1000000000000 ≤ r * q ∧ r * q ≤ 1000000000000)) := by
      intro p1 p2 r1 r2 q1 s1
      have a := mul_small (p := p) (k := s) (A := 1000000) (B := 1000000) (by omega) (by omega) (by have := hs.1; omega) (by omega) (by omega)
      have b := mul_small (p := r) (k := q) (A := 1000000) (B := 1000000) (by omega) (by omega) (by have := hq.1; omega) (by omega) (by omega)
      omega
    have TR : Hid (okP t ∧ okQ u → lessB p q r s = true → lessB r s t u = true → lessB p q t u = true) := fun h h1 h2 => less_trans p q r s t u hq hs h.2 h1 h2
    have L3 : Hid (okP t ∧ okQ u → ∀ w, Calls Try.prog 7 #[.int .i64 r, .int .i64 s, .int .i64 t, .int .i64 u] w fun e w' => e = .returned (.tuple #[.bool (lessB r s t u), .nilIface]) ∧ w = w') := fun h w => Less_yes r s t u hr hs h.1 h.2 w
    have L4 : Hid (okP t ∧ okQ u → ∀ w, Calls Try.prog 7 #[.int .i64 p, .int .i64 q, .int .i64 t, .int .i64 u] w fun e w' => e = .returned (.tuple #[.bool (lessB p q t u), .nilIface]) ∧ w = w') := fun h w => Less_yes p q t u hp hq h.1 h.2 w
    have L3' : Hid (¬ (okP t ∧ okQ u) → ∀ w, Calls Try.prog 7 #[.int .i64 r, .int .i64 s, .int .i64 t, .int .i64 u] w fun e w' => e = .returned (.tuple #[.bool false, .iface 34 (.int .i64 1)]) ∧ w = w') := fun h w => Less_no r s t u (fun h' => h h'.2.2) w
    have L4' : Hid (¬ (okP t ∧ okQ u) → ∀ w, Calls Try.prog 7 #[.int .i64 p, .int .i64 q, .int .i64 t, .int .i64 u] w fun e w' => e = .returned (.tuple #[.bool false, .iface 34 (.int .i64 1)]) ∧ w = w') := fun h w => Less_no p q t u (fun h' => h h'.2.2) w
    clear hp hq hr hs
    generalize lessB p q r s = x at *
    generalize lessB r s p q = y at *
    generalize lessB r s t u = z at *
    generalize lessB p q t u = v at *
    generalize qbits p q = X at *
    go_enter Try.func4, Try.ntmps4
    go_wp2_with fail
    refine (Less_yes 1 3 1 2 f1 f3 f1 f2 _).mono ?_
    rintro e w' ⟨rfl, rfl⟩
    rw [lessB_thirds]
    go_wp2_with fail
    refine (L1.out _).mono ?_
    rintro e w' ⟨rfl, rfl⟩
    go_wp2_with fail
    refine (L2.out _).mono ?_
    rintro e w' ⟨rfl, rfl⟩
    go_upto_region 8 with (fail)
    go_cut [80] (fun s wx => s = .bool false ∧ w = wx)
    case first =>
      as_aux_lemma =>
        cases x
        · go_wp2
          go_meet
          exact ⟨rfl, rfl⟩
        · cases y
          · go_wp2
            go_meet
            exact ⟨rfl, rfl⟩
          · exact absurd ⟨rfl, rfl⟩ A1.out
    case rest =>
      obtain ⟨rfl, rfl⟩ := hcut
      go_upto_region 10 with (fail)
      go_cut [118] (fun s wx => s = .bool false ∧ w = wx)
      case first =>
        as_aux_lemma =>
          by_cases hsm : -1000000 < p ∧ p < 1000000 ∧ -1000000 < r ∧ r < 1000000 ∧ q < 1000000 ∧ s < 1000000
          · obtain ⟨g1, g2, g3, g4, g5, g6⟩ := hsm
            obtain ⟨⟨m1, m2⟩, m3, m4⟩ := MS.out g1 g2 g3 g4 g5 g6
            have a2 := A2.out
            have a1 := A1.out
            cases x <;> cases y
            · have a2' : (p * s == r * q) = true := by simpa using a2
              clear a1 a2
              go_wp2
              go_meet
              exact ⟨rfl, rfl⟩
            · have a2' : (p * s == r * q) = false := by simpa using a2
              clear a1 a2
              go_wp2
              go_meet
              exact ⟨rfl, rfl⟩
            · have a2' : (p * s == r * q) = false := by simpa using a2
              clear a1 a2
              go_wp2
              go_meet
              exact ⟨rfl, rfl⟩
            · exact absurd ⟨rfl, rfl⟩ a1
          · have Hsm := Lib.hid hsm
            clear hsm
            rcases Int.lt_or_le (-1000000) p with g1 | g1
            · rcases Int.lt_or_le p 1000000 with g2 | g2
              · rcases Int.lt_or_le (-1000000) r with g3 | g3
                · rcases Int.lt_or_le r 1000000 with g4 | g4
                  · rcases Int.lt_or_le q 1000000 with g5 | g5
                    · rcases Int.lt_or_le s 1000000 with g6 | g6
                      · exact absurd ⟨g1, g2, g3, g4, g5, g6⟩ Hsm.out
                      · go_wp2
                        go_meet
                        exact ⟨rfl, rfl⟩
                    · go_wp2
                      go_meet
                      exact ⟨rfl, rfl⟩
                  · go_wp2
                    go_meet
                    exact ⟨rfl, rfl⟩
                · go_wp2
                  go_meet
                  exact ⟨rfl, rfl⟩
              · go_wp2
                go_meet
                exact ⟨rfl, rfl⟩
            · go_wp2
              go_meet
              exact ⟨rfl, rfl⟩
      case rest =>
        obtain ⟨rfl, rfl⟩ := hcut
        go_upto_region 12 with (fail)
        have h3 : ∃ (z' : Bool) (e3 e4 : Value) (v' : Bool), (∀ w, Calls Try.prog 7 #[.int .i64 r, .int .i64 s, .int .i64 t, .int .i64 u] w fun e w' => e = .returned (.tuple #[.bool z', e3]) ∧ w = w') ∧
            (∀ w, Calls Try.prog 7 #[.int .i64 p, .int .i64 q, .int .i64 t, .int .i64 u] w fun e w' => e = .returned (.tuple #[.bool v', e4]) ∧ w = w') ∧
            (e3 = .iface 34 (.int .i64 1) ∨ (e3 = .nilIface ∧ e4 = .nilIface ∧ (x = true → z' = true → v' = true))) := by
          by_cases h : okP t ∧ okQ u
          · exact ⟨z, .nilIface, .nilIface, v, L3.out h, L4.out h, .inr ⟨rfl, rfl, TR.out h⟩⟩
          · exact ⟨false, _, _, false, L3'.out h, L4'.out h, .inl rfl⟩
        obtain ⟨z', e3, e4, v', C3, C4, hz⟩ := h3
        have HC3 := Lib.hid C3
        have HC4 := Lib.hid C4
        have HZ := Lib.hid hz
        clear C3 C4 hz
        go_wp2_with fail
        refine (HC3.out _).mono ?_
        rintro e w' ⟨rfl, rfl⟩
        go_wp2_with fail
        refine (HC4.out _).mono ?_
        rintro e w' ⟨rfl, rfl⟩
        go_upto_region 14 with (fail)
        go_cut [150] (fun s wx => s = .bool false ∧ w = wx)
        case first =>
          as_aux_lemma =>
            rcases HZ.out with h | ⟨h1, h2, h3⟩
            · subst h
              go_wp2
              go_meet
              exact ⟨rfl, rfl⟩
            · subst h1 h2
              cases x
              · clear h3
                go_wp2
                go_meet
                exact ⟨rfl, rfl⟩
              · cases z'
                · clear h3
                  go_wp2
                  go_meet
                  exact ⟨rfl, rfl⟩
                · have h4 := h3 rfl rfl
                  clear h3
                  subst h4
                  go_wp2
                  go_meet
                  exact ⟨rfl, rfl⟩
        case rest =>
          obtain ⟨rfl, rfl⟩ := hcut
          go_upto_region 16 with (fail)
          rcases Int.lt_or_le k 1 with k1 | k1
          · as_aux_lemma =>
            go_wp2
            go_ret
            exact ⟨rfl, rfl⟩
          rcases Int.lt_or_le 1000 k with k2 | k2
          · as_aux_lemma =>
            go_wp2
            go_ret
            exact ⟨rfl, rfl⟩
          rcases Int.lt_or_le 1000000000 p with k3 | k3
          · as_aux_lemma =>
            go_wp2
            go_ret
            exact ⟨rfl, rfl⟩
          rcases Int.lt_or_le p (-1000000000) with k4 | k4
          · as_aux_lemma =>
            go_wp2
            go_ret
            exact ⟨rfl, rfl⟩
          rcases Int.lt_or_le 1000000000 q with k5 | k5
          · as_aux_lemma =>
            go_wp2
            go_ret
            exact ⟨rfl, rfl⟩
          obtain ⟨⟨n1, n2⟩, n3, n4⟩ := MB.out k1 k2 k3 k4 k5
          go_wp2_with fail
          refine (L5.out k1 k2 k3 k4 k5 _).mono ?_
          rintro e w' ⟨rfl, rfl⟩
          go_wp2_with fail
          refine (B1.out _).mono ?_
          rintro e w' ⟨rfl, rfl⟩
          go_wp2_with fail
          refine (B2.out k1 k2 k3 k4 k5 _).mono ?_
          rintro e w' ⟨rfl, rfl⟩
          go_wp2
          go_ret
          exact ⟨rfl, rfl⟩
  · have H1 := Lib.hid h
    have H2 : Hid (¬ (okP r ∧ okQ s ∧ okP p ∧ okQ q)) := fun h' => h ⟨h'.2.2.1, h'.2.2.2, h'.1, h'.2.1⟩
    clear h
    go_enter Try.func4, Try.ntmps4
    go_wp2_with fail
    refine (Less_yes 1 3 1 2 f1 f3 f1 f2 _).mono ?_
    rintro e w' ⟨rfl, rfl⟩
    rw [lessB_thirds]
    go_wp2_with fail
    refine (Less_no p q r s H1.out _).mono ?_
    rintro e w' ⟨rfl, rfl⟩
    go_wp2_with fail
    refine (Less_no r s p q H2.out _).mono ?_
    rintro e w' ⟨rfl, rfl⟩
    go_wp2
    go_ret
    exact ⟨rfl, rfl⟩
end Go.Proofs.Ytjbhgdhdkjfmnaa
