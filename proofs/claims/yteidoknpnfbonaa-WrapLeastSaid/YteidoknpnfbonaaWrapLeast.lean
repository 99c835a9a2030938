/- WALK: the law WrapLeast. -/
import Derived.Test.YteidoknpnfbonaaWrapLater
import Derived.Test.YteidoknpnfbonaaPcsOpen
namespace Go.Proofs.Yteidoknpnfbonaa
open Go Go.RowKit SharePlain PackPlain ShareLaw

theorem WrapLeast_walk (times : List Int) (mach by_ : Int) (l : List Pc) (a al : Option Addr) (cap capl : Nat) (w : World) (hx : Ints w a times) (hl : times.length ≤ 9223372036854775807) (hp : Pcs w al l) (hlc : l.length ≤ capl) (hll : l.length ≤ 9223372036854775807) (hby : by_ ≤ 9223372036854775807) :
    Calls Try.prog 3 #[.slice a times.length cap, .int .i64 mach, .slice al l.length capl, .int .i64 by_] w fun e w' => e = .returned (.bool true) ∧ Below w.heap.size w w' := by
  by_cases hc : chk times mach = 0
  · have hf := chk_fine hc
    clear hc
    obtain ⟨m, rfl, hm1, hm6⟩ := hf.nat
    have hs := hf.short
    rcases Nat.lt_or_ge 60 l.length with h60 | h60
    · go_enter Try.func3, Try.ntmps3
      go_wp2_with fail
      refine (wrapFact_any _).mono ?_
      rintro e w0 ⟨rfl, b0⟩
      go_wp2_with fail
      refine (Fits_full times m l.length by_ a al cap capl _ (hx.below b0) hf h60).mono ?_
      rintro e w1 ⟨rfl, rfl⟩
      go_wp2
      go_ret
      exact ⟨rfl, b0⟩
    · go_enter Try.func3, Try.ntmps3
      go_wp2_with fail
      refine (wrapFact_any _).mono ?_
      rintro e w0 ⟨rfl, b0⟩
      go_wp2_with fail
      refine (Fits_any times m l by_ a al cap capl _ (hx.below b0) (hp.below b0) hf h60 hby hlc).mono ?_
      rintro e w1 ⟨is, rfl, h1, b1⟩
      have b01 := b0.trans (b1.mono b0.size)
      have hL := Long_yes times m a cap _ (hx.below b01) hf
      have hP : is = true → times.length ≠ 0 → fairOf times m ≤ by_ := fun h hne => plan_fair (h1.1 h) hf (fun e => hne (by rw [e]; rfl))
      clear h1
      generalize fairOf times m = L at hL hP
      go_wp2_with fail
      refine hL.mono ?_
      rintro e w2 ⟨rfl, rfl⟩
      clear hL
      have HP := Lib.hid hP
      clear hP
      cases is
      · go_wp2
        go_ret
        exact ⟨rfl, b01⟩
      · by_cases h0 : times.length = 0
        · have c4 : ((times.length : Int) == 0) = true := by rw [h0]; rfl
          clear h0
          go_wp2
          all_goals
            go_ret
            exact ⟨rfl, b01⟩
        · have hb := HP.out rfl h0
          have c4 : ((times.length : Int) == 0) = false := by rw [beq_eq_false_iff_ne]; omega
          clear h0
          go_wp2
          go_ret
          exact ⟨rfl, b01⟩
  · have Hc := Lib.hid hc
    clear hc
    go_enter Try.func3, Try.ntmps3
    go_wp2_with fail
    refine (wrapFact_any _).mono ?_
    rintro e w0 ⟨rfl, b0⟩
    go_wp2_with fail
    refine (Fits_no times mach _ by_ a cap _ (hx.below b0) hl Hc.out).mono ?_
    rintro e w1 ⟨rfl, rfl⟩
    go_wp2
    go_ret
    exact ⟨rfl, b0⟩
end Go.Proofs.Yteidoknpnfbonaa
