/- WALKS: bits.Mul64, quot.Bits, quot.Less: what each computes. -/
import Derived.Test.YtjbhgdhdkjfmnaaDoorWithin
import Derived.Test.YtjbhgdhdkjfmnaaDoorQuotPlain
import Derived.Lib.Mul64
import Derived.Laws.Bits64b
import Derived.Laws.Cover2
import Derived.Laws.FloatArith
namespace Go.Proofs.YtjbhgdhdkjfmnaaDoor
open Go Go.RowKit QuotPlain

theorem maskN (a : Nat) (ha : a < 18446744073709551616) : bits .and .u64 (a : Int) 4294967295 = ((a % 4294967296 : Nat) : Int) := by
  have h := bits_and_u64_nat a 4294967295 ha (by omega)
  have e : a &&& 4294967295 = a % 4294967296 := Nat.and_two_pow_sub_one_eq_mod a 32
  rw [e] at h
  exact h
theorem divN (a : Nat) : (a : Int) / 4294967296 = ((a / 4294967296 : Nat) : Int) := by omega
theorem mulN (a b : Nat) : (a : Int) * (b : Int) = ((a * b : Nat) : Int) := (Int.natCast_mul a b).symm
theorem addN (a b : Nat) : (a : Int) + (b : Int) = ((a + b : Nat) : Int) := (Int.natCast_add a b).symm
theorem wrapN (a : Nat) (ha : a < 18446744073709551616) : IntKind.u64.wrap (a : Int) = (a : Int) := by rw [IntKind.wrap_u64]; omega
theorem wrapM (a : Nat) : IntKind.u64.wrap (a : Int) = ((a % 18446744073709551616 : Nat) : Int) := by rw [IntKind.wrap_u64]; omega

set_option maxHeartbeats 1000000 in
theorem Mul64_any (x y : Nat) (hx : x < 18446744073709551616) (hy : y < 18446744073709551616) (w : World) :
    Calls Tryd.prog 13 #[.int .u64 x, .int .u64 y] w fun e w' => e = .returned (.tuple #[.int .u64 ((x * y / 18446744073709551616 : Nat) : Int), .int .u64 ((x * y % 18446744073709551616 : Nat) : Int)]) ∧ w = w' := by
  obtain ⟨bd, bt, bw, hhi⟩ := Lib.mul64_hi x y hx hy
  have ba := Lib.half_mul_le (a := x / 4294967296) (b := y / 4294967296) (by omega) (by omega)
  have bb := Lib.half_mul_le (a := x / 4294967296) (b := y % 4294967296) (by omega) (by omega)
  have bc := Lib.half_mul_le (a := x % 4294967296) (b := y / 4294967296) (by omega) (by omega)
  have ba' : x / 4294967296 * (y / 4294967296) < 18446744073709551616 := by omega
  have bb' : x / 4294967296 * (y % 4294967296) < 18446744073709551616 := by omega
  have bc' : x % 4294967296 * (y / 4294967296) < 18446744073709551616 := by omega
  have bh1 : x / 4294967296 * (y / 4294967296) + (x / 4294967296 * (y % 4294967296) + x % 4294967296 * (y % 4294967296) / 4294967296) / 4294967296 < 18446744073709551616 := by omega
  have bh : x / 4294967296 * (y / 4294967296) + (x / 4294967296 * (y % 4294967296) + x % 4294967296 * (y % 4294967296) / 4294967296) / 4294967296 + ((x / 4294967296 * (y % 4294967296) + x % 4294967296 * (y % 4294967296) / 4294967296) % 4294967296 + x % 4294967296 * (y / 4294967296)) / 4294967296 < 18446744073709551616 := by omega
  go_enter Tryd.func13, Tryd.ntmps13
  go_wp2
  simp only [maskN x hx, maskN y hy, divN, mulN, addN, wrapN _ bd, wrapN _ bb', wrapN _ bt, maskN _ bt, wrapN _ bc', wrapN _ bw, wrapN _ ba', wrapN _ bh1, wrapN _ bh, wrapM (x * y)]
  rw [hhi]
  go_ret2
  exact ⟨rfl, rfl⟩

/-- what may be -/
def okP (p : Int) : Prop := -9007199254740992 ≤ p ∧ p ≤ 9007199254740992
def okQ (q : Int) : Prop := 1 ≤ q ∧ q ≤ 9007199254740992

theorem run_bits (b : Nat) (w : World) : (callFunc 10 #[.float .f64 b]).run Tryd.prog w = .ok (.value (.int .u64 b)) w := by
  have h := run_callFunc_extern (P := Tryd.prog) (f := 10) (fn := Tryd.f10) (e := Extern.MathFloatBits.float64bits) Tryd.func10 (by kernel_rfl) (by kernel_rfl) (by kernel_rfl) (by kernel_rfl) #[.float .f64 b] w
  exact h.trans rfl

theorem Bits_yes (p q : Int) (hp : okP p) (hq : okQ q) (w : World) :
    Calls Tryd.prog 5 #[.int .i64 p, .int .i64 q] w fun e w' => e = .returned (.tuple #[.int .u64 (qbits p q), .nilIface]) ∧ w = w' := by
  obtain ⟨p1, p2⟩ := hp
  obtain ⟨q1, q2⟩ := hq
  have hd := fun w => run_float_arith (P := Tryd.prog) w .quo 35 .f64 (floatOfInt .f64 p) (floatOfInt .f64 q) (qbits p q) (go_quo p q p1 p2 q1 q2)
  have hfb := fun w => run_bits (qbits p q) w
  go_enter Tryd.func5, Tryd.ntmps5
  go_wp2_with fail
  refine (within_yes p _ _ p1 p2 _).mono ?_
  rintro e w' ⟨rfl, rfl⟩
  go_wp2_with fail
  refine (within_yes q _ _ q1 q2 _).mono ?_
  rintro e w' ⟨rfl, rfl⟩
  go_wp2
  go_ret2
  exact ⟨rfl, rfl⟩

theorem Bits_no (p q : Int) (h : ¬ (okP p ∧ okQ q)) (w : World) :
    Calls Tryd.prog 5 #[.int .i64 p, .int .i64 q] w fun e w' => e = .returned (.tuple #[.int .u64 0, .iface 33 (.int .i64 1)]) ∧ w = w' := by
  by_cases hp : okP p
  · have hq : q < 1 ∨ 9007199254740992 < q := by
      by_cases h2 : q < 1 ∨ 9007199254740992 < q
      · exact h2
      · exact absurd ⟨hp, ⟨by omega, by omega⟩⟩ h
    obtain ⟨p1, p2⟩ := hp
    have Hq := Lib.hid hq
    clear h hq
    go_enter Tryd.func5, Tryd.ntmps5
    go_wp2_with fail
    refine (within_yes p _ _ p1 p2 _).mono ?_
    rintro e w' ⟨rfl, rfl⟩
    go_wp2_with fail
    refine (within_no q _ _ Hq.out _).mono ?_
    rintro e w' ⟨rfl, rfl⟩
    go_wp2
    go_ret2
    exact ⟨rfl, rfl⟩
  · have hp' : p < -9007199254740992 ∨ 9007199254740992 < p := by
      by_cases h2 : p < -9007199254740992 ∨ 9007199254740992 < p
      · exact h2
      · exact absurd ⟨by omega, by omega⟩ hp
    have Hp := Lib.hid hp'
    clear h hp hp'
    go_enter Tryd.func5, Tryd.ntmps5
    go_wp2_with fail
    refine (within_no p _ _ Hp.out _).mono ?_
    rintro e w' ⟨rfl, rfl⟩
    go_wp2
    go_ret2
    exact ⟨rfl, rfl⟩

/-! ### Less -/
def lessB (p q r s : Int) : Bool := decide (p * s < r * q)

theorem index4_0 (x0 x1 x2 x3 : Value) (w : World) : (Instr.index 38 (.agg #[x0, x1, x2, x3]) (.int .i64 0)).run Tryd.prog w = .ok x0 w := by kernel_rfl
theorem index4_1 (x0 x1 x2 x3 : Value) (w : World) : (Instr.index 38 (.agg #[x0, x1, x2, x3]) (.int .i64 1)).run Tryd.prog w = .ok x1 w := by kernel_rfl
theorem index4_2 (x0 x1 x2 x3 : Value) (w : World) : (Instr.index 38 (.agg #[x0, x1, x2, x3]) (.int .i64 2)).run Tryd.prog w = .ok x2 w := by kernel_rfl
theorem index4_3 (x0 x1 x2 x3 : Value) (w : World) : (Instr.index 38 (.agg #[x0, x1, x2, x3]) (.int .i64 3)).run Tryd.prog w = .ok x3 w := by kernel_rfl

theorem Less_no (p q r s : Int) (h : ¬ (okP p ∧ okQ q ∧ okP r ∧ okQ s)) (w : World) :
    Calls Tryd.prog 8 #[.int .i64 p, .int .i64 q, .int .i64 r, .int .i64 s] w fun e w' => e = .returned (.tuple #[.bool false, .iface 33 (.int .i64 1)]) ∧ w = w' := by
  have i0 := fun w => index4_0 (.int .i64 p) (.int .i64 q) (.int .i64 r) (.int .i64 s) w
  have i1 := fun w => index4_1 (.int .i64 p) (.int .i64 q) (.int .i64 r) (.int .i64 s) w
  have i2 := fun w => index4_2 (.int .i64 p) (.int .i64 q) (.int .i64 r) (.int .i64 s) w
  have i3 := fun w => index4_3 (.int .i64 p) (.int .i64 q) (.int .i64 r) (.int .i64 s) w
  have H := Lib.hid h
  clear h
  go_enter Tryd.func8, Tryd.ntmps8
  go_wp2
  go_loop [22] (fun i => ∃ k : Nat, k ≤ 4 ∧ i = .int .i64 k ∧ ∀ j, j < k → okP ([p, q, r, s].getD j 0)) (fun i => 4 - (intOf i).toNat)
  case atStart => exact ⟨0, Nat.zero_le _, rfl, fun j hj => by omega⟩
  case round =>
    obtain ⟨k, hk, rfl, hall⟩ := hrel
    have Hall := Lib.hid hall
    clear hall
    have hk4 : k = 0 ∨ k = 1 ∨ k = 2 ∨ k = 3 ∨ k = 4 := by omega
    have step : ∀ (k : Nat) (x : Int), [p, q, r, s].getD k 0 = x → okP x → (∀ j, j < k → okP ([p, q, r, s].getD j 0)) → ∀ j, j < k + 1 → okP ([p, q, r, s].getD j 0) := fun k x e hx h j hj => by
      rcases Nat.lt_or_ge j k with hh | hh
      · exact h j hh
      · have : j = k := by omega
        subst this; rw [e]; exact hx
    have Step := Lib.hid step
    clear step
    rcases hk4 with rfl | rfl | rfl | rfl | rfl
    · by_cases hx : p < -9007199254740992 ∨ 9007199254740992 < p
      · have Hx := Lib.hid hx
        clear hx
        go_wp2_with (go_at_call 9; refine (within_no p _ _ Hx.out _).mono ?_; rintro e w' ⟨rfl, rfl⟩)
        go_ret2
        exact ⟨rfl, rfl⟩
      · have x1 : -9007199254740992 ≤ p := by omega
        have x2 : p ≤ 9007199254740992 := by omega
        clear hx
        go_wp2_with (go_at_call 9; refine (within_yes p _ _ x1 x2 _).mono ?_; rintro e w' ⟨rfl, rfl⟩)
        go_round
        case rel => exact ⟨1, by omega, rfl, Step.out 0 p rfl ⟨x1, x2⟩ Hall.out⟩
        case measure => simp only [intOf]; omega
    · by_cases hx : q < -9007199254740992 ∨ 9007199254740992 < q
      · have Hx := Lib.hid hx
        clear hx
        go_wp2_with (go_at_call 9; refine (within_no q _ _ Hx.out _).mono ?_; rintro e w' ⟨rfl, rfl⟩)
        go_ret2
        exact ⟨rfl, rfl⟩
      · have x1 : -9007199254740992 ≤ q := by omega
        have x2 : q ≤ 9007199254740992 := by omega
        clear hx
        go_wp2_with (go_at_call 9; refine (within_yes q _ _ x1 x2 _).mono ?_; rintro e w' ⟨rfl, rfl⟩)
        go_round
        case rel => exact ⟨2, by omega, rfl, Step.out 1 q rfl ⟨x1, x2⟩ Hall.out⟩
        case measure => simp only [intOf]; omega
    · by_cases hx : r < -9007199254740992 ∨ 9007199254740992 < r
      · have Hx := Lib.hid hx
        clear hx
        go_wp2_with (go_at_call 9; refine (within_no r _ _ Hx.out _).mono ?_; rintro e w' ⟨rfl, rfl⟩)
        go_ret2
        exact ⟨rfl, rfl⟩
      · have x1 : -9007199254740992 ≤ r := by omega
        have x2 : r ≤ 9007199254740992 := by omega
        clear hx
        go_wp2_with (go_at_call 9; refine (within_yes r _ _ x1 x2 _).mono ?_; rintro e w' ⟨rfl, rfl⟩)
        go_round
        case rel => exact ⟨3, by omega, rfl, Step.out 2 r rfl ⟨x1, x2⟩ Hall.out⟩
        case measure => simp only [intOf]; omega
    · by_cases hx : s < -9007199254740992 ∨ 9007199254740992 < s
      · have Hx := Lib.hid hx
        clear hx
        go_wp2_with (go_at_call 9; refine (within_no s _ _ Hx.out _).mono ?_; rintro e w' ⟨rfl, rfl⟩)
        go_ret2
        exact ⟨rfl, rfl⟩
      · have x1 : -9007199254740992 ≤ s := by omega
        have x2 : s ≤ 9007199254740992 := by omega
        clear hx
        go_wp2_with (go_at_call 9; refine (within_yes s _ _ x1 x2 _).mono ?_; rintro e w' ⟨rfl, rfl⟩)
        go_round
        case rel => exact ⟨4, by omega, rfl, Step.out 3 s rfl ⟨x1, x2⟩ Hall.out⟩
        case measure => simp only [intOf]; omega
    · have h0 := Hall.out 0 (by omega)
      have h1 := Hall.out 1 (by omega)
      have h2 := Hall.out 2 (by omega)
      have h3 := Hall.out 3 (by omega)
      simp only [List.getD_cons_zero, List.getD_cons_succ] at h0 h1 h2 h3
      have hqs : q < 1 ∨ s < 1 := by
        by_cases h : q < 1 ∨ s < 1
        · exact h
        · exact absurd ⟨h0, ⟨by omega, h1.2⟩, h2, ⟨by omega, h3.2⟩⟩ H.out
      clear h0 h1 h2 h3
      rcases Int.lt_or_le q 1 with hq | hq
      · clear hqs
        go_wp2
        go_ret2
        exact ⟨rfl, rfl⟩
      · have hs : s < 1 := by omega
        clear hqs
        go_wp2
        go_ret2
        exact ⟨rfl, rfl⟩
end Go.Proofs.YtjbhgdhdkjfmnaaDoor
