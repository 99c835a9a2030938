/- WALK: the law ShareBounds returns true. -/
import Derived.Test.YteidoknpnfbonaaWrapLong
namespace Go.Proofs.Yteidoknpnfbonaa
open Go Go.RowKit SharePlain PackPlain ShareLaw

set_option maxHeartbeats 1000000 in
theorem ShareBounds_walk (times on : List Int) (mach : Int) (a b : Option Addr) (cap cap' : Nat) (w : World) (hx : Ints w a times) (hy : Ints w b on) (hl : times.length ≤ 9223372036854775807) (hl' : on.length ≤ 9223372036854775807) :
    Calls Try.prog 9 #[.slice a times.length cap, .int .i64 mach, .slice b on.length cap'] w fun e w' => e = .returned (.bool true) ∧ Below w.heap.size w w' := by
  by_cases hc : chk times mach = 0
  · have hf := chk_fine hc
    clear hc
    obtain ⟨m, rfl, hm1, hm6⟩ := hf.nat
    have hs := hf.short
    go_enter Try.func9, Try.ntmps9
    go_wp2_with fail
    refine (shareFact_any _).mono ?_
    rintro e w0 ⟨rfl, b0⟩
    go_wp2_with fail
    refine (Load_any times on m a b cap cap' w0 (hx.below b0) (hy.below b0) hf hl').mono ?_
    rintro e w1 ⟨k, er, rfl, hr, b1⟩
    have b01 := b0.trans (b1.mono b0.size)
    go_wp2_with fail
    refine (Long_yes times m a cap w1 (hx.below b01) hf).mono ?_
    rintro e w2 ⟨rfl, rfl⟩
    by_cases he : er = 0
    · subst he
      have hk := hr.long rfl
      have ok := hr.good.1 rfl
      have p1 := fair_le hm1 ok hf.nonneg
      have p2 := long_sum (times := times) (on := on) hm1 hf.nonneg
      have hsm := small_of_nonneg times hf.nonneg (by have := hf.sum; omega)
      have hS := Sum_any times a cap w1 (hx.below b01) hsm (by omega)
      rw [← hk] at p1 p2
      clear hr hk ok
      generalize fairOf times m = n at p1 ⊢
      generalize times.sum = SS at p2 hS
      rw [errV_ok]
      go_wp2_with fail
      refine hS.mono ?_
      rintro e w3 ⟨rfl, rfl⟩
      go_wp2
      go_ret
      exact ⟨rfl, b01⟩
    · have hn := hr.none he
      subst hn
      rw [errV_bad he]
      clear hr
      generalize fairOf times m = n
      go_wp2
      go_ret
      exact ⟨rfl, b01⟩
  · have Hc := Lib.hid hc
    clear hc
    go_enter Try.func9, Try.ntmps9
    go_wp2_with fail
    refine (shareFact_any _).mono ?_
    rintro e w0 ⟨rfl, b0⟩
    go_wp2_with fail
    refine (Load_no times mach a b cap on.length cap' _ (hx.below b0) hl Hc.out).mono ?_
    rintro e w1 ⟨rfl, rfl⟩
    go_wp2_with fail
    refine (Long_no times mach a cap _ (hx.below b0) hl Hc.out).mono ?_
    rintro e w1 ⟨rfl, rfl⟩
    go_wp2
    go_ret
    exact ⟨rfl, b0⟩
end Go.Proofs.Yteidoknpnfbonaa
