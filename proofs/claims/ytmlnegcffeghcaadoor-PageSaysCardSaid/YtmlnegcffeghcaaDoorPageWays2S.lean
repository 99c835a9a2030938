/- WALK: Told: what it tells. -/
import Derived.Test.YtmlnegcffeghcaaDoorPageWays
import Derived.Test.YtmlnegcffeghcaaDoorPagePlayTold
namespace Go.Proofs.YtmlnegcffeghcaaDoor
open Go Go.RowKit PagePlain Go.Maps

set_option maxHeartbeats 1000000 in
theorem Told_any (frames : Int) (asks picks : List Int) (a ap : Option Addr) (cap capp : Nat) (w : World) (hx : Ints w a asks) (hl : asks.length ≤ 9223372036854775807) (hy : Ints w ap picks) (hlp : picks.length ≤ 9223372036854775807) (hwf : ∀ n ∈ picks, -9223372036854775808 ≤ n ∧ n ≤ 9223372036854775807) :
    Calls Tryd.prog 12 #[.int .i64 frames, .slice a asks.length cap, .slice ap picks.length capp] w fun e w' => PageRes (KTold picks) frames asks w e w' := by
  have b0 : Below w.heap.size w w := Below.refl _ _
  by_cases hF : FineP frames asks
  · obtain ⟨f, rfl⟩ := Int.eq_ofNat_of_zero_le (show 0 ≤ frames by have := hF.r1; omega)
    have hP := play_told f asks picks a ap cap capp w (fun w' h => hx.below (h.below (Nat.le_refl _) (fun k e => e.elim))) hF (fun w' h => hy.below (h.below (Nat.le_refl _) (fun k e => e.elim))) hlp hwf
    have HP := Lib.hid hP
    have HF := Lib.hid hF
    clear hP hF b0
    go_enter Tryd.func12, Tryd.ntmps12
    go_wp2_with fail
    refine HP.out.mono ?_
    rintro e w1 ⟨rfl, hb, ho⟩
    have HB := Lib.hid hb
    have HO := Lib.hid (ho.below (Nat.le_refl _) (fun k e => e.elim))
    clear hb ho
    go_wp2
    go_ret2
    exact ⟨.inl ⟨HF.out, _, rfl, HB.out, by omega⟩, HO.out⟩
  · have hP := play_no frames asks a cap (.iface 50 (.agg #[.slice ap picks.length capp])) w (hx.below b0) hl hF
    have hne := chkP_no hF
    have Hne := Lib.hid hne
    have HP := Lib.hid hP
    have HF := Lib.hid hF
    have HB := Lib.hid b0
    clear hP hF b0 hne
    generalize hc : chkP frames asks = c at *
    have HC := Lib.hid hc
    clear hc
    go_enter Tryd.func12, Tryd.ntmps12
    go_wp2_with fail
    refine HP.out.mono ?_
    rintro e w1 ⟨rfl, rfl⟩
    go_wp2
    go_ret2
    exact ⟨.inr ⟨HF.out, by rw [HC.out]; rfl, by rw [HC.out]; exact Hne.out⟩, HB.out⟩
end Go.Proofs.YtmlnegcffeghcaaDoor
