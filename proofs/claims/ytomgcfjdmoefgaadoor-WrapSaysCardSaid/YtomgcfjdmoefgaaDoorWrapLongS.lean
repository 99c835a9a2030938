/- WALKS: wrap.Long; the law ShareBounds. -/
import Derived.Test.YtomgcfjdmoefgaaDoorShareWalks3
namespace Go.Proofs.YtomgcfjdmoefgaaDoor
open Go Go.RowKit SharePlain PackPlain ShareLaw

theorem Long_no (times : List Int) (mach : Int) (a : Option Addr) (cap : Nat) (w : World) (hx : Ints w a times) (hl : times.length ≤ 9223372036854775807) (h : chk times mach ≠ 0) :
    Calls Tryd.prog 12 #[.slice a times.length cap, .int .i64 mach] w fun e w' => e = .returned (.tuple #[.int .i64 0, .iface 81 (.int .i64 (chk times mach))]) ∧ w = w' := by
  have H := Lib.hid h
  clear h
  go_enter Tryd.func12, Tryd.ntmps12
  go_wp2_with (go_at_call 49; refine (check_no times mach a cap _ hx hl H.out).mono ?_; rintro e w' ⟨rfl, rfl⟩)
  go_ret2
  exact ⟨rfl, rfl⟩
theorem foldl_take (l : List Int) (k : Nat) (h : k < l.length) : (l.take (k + 1)).foldl max 0 = max ((l.take k).foldl max 0) (l.getD k 0) := by
  rw [List.take_succ_eq_append_getElem h, List.foldl_append, List.getD_eq_getElem?_getD, List.getElem?_eq_getElem h]; rfl

set_option maxHeartbeats 1000000 in
theorem Long_yes (times : List Int) (m : Nat) (a : Option Addr) (cap : Nat) (w : World) (hx : Ints w a times) (hf : Fine times m) :
    Calls Tryd.prog 12 #[.slice a times.length cap, .int .i64 m] w fun e w' => e = .returned (.tuple #[.int .i64 (fairOf times m), .nilIface]) ∧ w = w' := by
  have hs := hf.short
  have r1 := hf.r1
  have r2 := hf.r2
  have hc := fine_chk hf
  have Hc := Lib.hid hc
  clear hc
  go_enter Tryd.func12, Tryd.ntmps12
  go_wp2_with (go_at_call 49; refine (check_yes times m a cap _ hx (by omega) Hc.out).mono ?_; rintro e w' ⟨rfl, rfl⟩)
  go_loop [7, 8, 19] (fun s mo i => ∃ k : Nat, k ≤ times.length ∧ i = .int .i64 k ∧ s = .int .i64 (times.take k).sum ∧ mo = .int .i64 ((times.take k).foldl max 0)) (fun _ _ i => times.length - (intOf i).toNat)
  case atStart => exact ⟨0, Nat.zero_le _, rfl, rfl, rfl⟩
  case round =>
    obtain ⟨k, hk, rfl, rfl, rfl⟩ := hrel
    have hsum := hf.sum
    have htk := take_sum_le times hf.nonneg k
    rcases Nat.lt_or_ge k times.length with hlt | hge
    · obtain ⟨b, off, rfl, hcs⟩ := hx.open (by omega)
      have hck := hcs k hlt
      have hsk := hf.all _ (getD_mem times k hlt)
      have e1 := sum_take times k hlt
      have e2 := foldl_take times k hlt
      clear hcs
      generalize hv : times.getD k 0 = v at hck hsk e1 e2
      generalize hS : (times.take k).sum = S0 at e1 htk ⊢
      generalize hM : (times.take k).foldl max 0 = M0 at e2 ⊢
      have E1 := Lib.hid e1
      have E2 := Lib.hid e2
      clear e1 e2 hv hS hM
      go_wp2
      all_goals
        go_round
        case rel =>
          have e : (if M0 < v then v else M0) = max M0 v := by rw [Int.max_def]; split <;> split <;> omega
          exact ⟨k + 1, by omega, by go_num, by rw [E1.out], by rw [E2.out, ← e]⟩
        case measure => simp only [intOf]; omega
    · have hkn : k = times.length := by omega
      have e1 : (times.take k).sum = times.sum := by rw [hkn, List.take_length]
      have e2 : (times.take k).foldl max 0 = times.foldl max 0 := by rw [hkn, List.take_length]
      rw [e1, e2]
      have hfair : fairOf times m = max (times.foldl max 0) ((times.sum + m - 1) / m) := rfl
      have hP : times.foldl max 0 ≤ 1000 := by
        rcases (foldl_max times 0).2.2 with e | e
        · omega
        · exact (hf.all _ e).2
      generalize times.foldl max 0 = M0 at hfair hP ⊢
      generalize times.sum = S0 at hfair hsum ⊢
      have Hfair := Lib.hid hfair
      have h3 : ((times.length : Nat) : Int) ≤ (k : Int) := by omega
      clear hfair e1 e2 hkn htk
      rcases Int.lt_or_le M0 ((S0 + m - 1) / m) with hq | hq
      · go_wp2
        go_ret2
        exact ⟨by rw [Hfair.out, Int.max_eq_right (by omega)]; rfl, rfl⟩
      · go_wp2
        go_ret2
        exact ⟨by rw [Hfair.out, Int.max_eq_left hq]; rfl, rfl⟩
end Go.Proofs.YtomgcfjdmoefgaaDoor
