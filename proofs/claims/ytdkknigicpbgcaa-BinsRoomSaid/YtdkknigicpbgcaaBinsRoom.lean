/- WALK: the law BinsRoom returns true. -/
import Derived.Test.YtdkknigicpbgcaaBinsMany
import Derived.Test.YtdkknigicpbgcaaBinsHalf
namespace Go.Proofs.Ytdkknigicpbgcaa
open Go Go.RowKit BinsPlain PackPlain

set_option maxHeartbeats 1000000 in
theorem BinsRoom_walk (sizes ins : List Int) (room : Int) (a b : Option Addr) (cap cap' : Nat) (w : World) (hx : Ints w a sizes) (hy : Ints w b ins) (hl : sizes.length ≤ 9223372036854775807) (hl' : ins.length ≤ 9223372036854775807) :
    Calls Try.prog 4 #[.slice a sizes.length cap, .int .i64 room, .slice b ins.length cap'] w fun e w' => e = .returned (.bool true) ∧ Below w.heap.size w w' := by
  by_cases hc : chk sizes room = 0
  · have hf := chk_fine hc
    clear hc
    have hs := hf.short
    have r1 := hf.r1
    have r2 := hf.r2
    go_enter Try.func4, Try.ntmps4
    go_wp2_with fail
    refine (binsFact_any _).mono ?_
    rintro e w0 ⟨rfl, b0⟩
    go_wp2_with fail
    refine (Many_any sizes ins room a b cap cap' _ (hx.below b0) (hy.below b0) hf hl').mono ?_
    rintro e w1 ⟨n, er, rfl, hr, b1⟩
    have b01 := b0.trans (b1.mono b0.size)
    have hx1 := hx.below b01
    by_cases he : er = 0
    · subst he
      have hP := hr.good.1 rfl
      have hn := hr.many rfl
      have hlaw := room_law sizes ins room hP.load
      have hk := keysA_length ins sizes.length
      have hsum0 := take_sum_le sizes (fun n hn => by have := (hf.all n hn).1; omega) 0
      have hsum : sizes.sum ≤ 1000 * 16 := by
        have := sum_le_const sizes 1000 (fun n hn => by have := (hf.all n hn).2; omega)
        omega
      have hsm := small_of_nonneg sizes (fun n hn => by have := (hf.all n hn).1; omega) (by omega)
      subst hn
      clear hr hP
      generalize (keysA ins sizes.length).length = K at hlaw hk
      have hKr : (K : Int) * room ≤ 16 * 1000 := by
        have h1 : (K : Int) * room ≤ (K : Int) * 1000 := Int.mul_le_mul_of_nonneg_left r2 (by omega)
        omega
      have hKr0 : (0 : Int) ≤ (K : Int) * room := Int.mul_nonneg (by omega) (by omega)
      have hS := Sum_any sizes a cap w1 hx1 hsm (by omega)
      generalize sizes.sum = SS at hS hlaw hsum hsum0
      rw [errV_ok]
      go_wp2_with fail
      refine hS.mono ?_
      rintro e w2 ⟨rfl, rfl⟩
      go_wp2
      go_ret
      exact ⟨rfl, b01⟩
    · have hn := hr.none he
      subst hn
      rw [errV_bad he]
      clear hr
      go_wp2
      go_ret
      exact ⟨rfl, b01⟩
  · have Hc := Lib.hid hc
    clear hc
    go_enter Try.func4, Try.ntmps4
    go_wp2_with fail
    refine (binsFact_any _).mono ?_
    rintro e w0 ⟨rfl, b0⟩
    go_wp2_with fail
    refine (Many_no sizes room a b cap ins.length cap' _ (hx.below b0) hl Hc.out).mono ?_
    rintro e w1 ⟨rfl, rfl⟩
    go_wp2
    go_ret
    exact ⟨rfl, b0⟩
end Go.Proofs.Ytdkknigicpbgcaa
