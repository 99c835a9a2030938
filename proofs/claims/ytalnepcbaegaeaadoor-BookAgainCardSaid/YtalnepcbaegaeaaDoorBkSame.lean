/- WALK: ricksteadsame.Items: two lists of items that are the same. -/
import Derived.Test.YtalnepcbaegaeaaDoorBkPushB
import Derived.Test.YtalnepcbaegaeaaDoorBkNext
import Derived.Test.YtalnepcbaegaeaaDoorBkItemEq
import Derived.BigQuiet
set_option linter.unusedVariables false
set_option linter.unusedSimpArgs false
namespace Go.Proofs.YtalnepcbaegaeaaDoor
open Go Go.RowKit SimPlain HeapPlain

set_option maxRecDepth 100000 in
set_option maxHeartbeats 2000000 in
theorem Items_same (l l' : List Ev) (a a' : Option Addr) (cap cap' N : Nat) (w : World) (hN : N = l.length) (hN' : N = l'.length) (h100 : N ≤ 100) (hx : EvA w a l) (hx' : EvA w a' l') (hs : ∀ i, i < N → (l.getD i e0).t = (l'.getD i e0).t ∧ (l.getD i e0).id = (l'.getD i e0).id) :
    Calls Tryd.prog 17 #[.slice a N cap, .slice a' N cap'] w fun e w' => e = .returned (.bool true) ∧ ∃ n, w' = w.drewN n := by
  have HX := Lib.hid hx
  have HX' := Lib.hid hx'
  have HS := Lib.hid hs
  have HN := Lib.hid hN
  have HN' := Lib.hid hN'
  have hgd := item_guard
  have hnq := item_neq
  clear hx hx' hs hN hN'
  have hnn : ((N : Int) != (N : Int)) = false := by simp
  go_enter Tryd.func17, Tryd.ntmps17
  go_wp2
  go_loopw [5] (fun iv wr => ∃ (i q : Nat), iv = .int .i64 i ∧ i ≤ N ∧ wr = w.drewN q) (fun iv _ => N - (intOf iv).toNat)
  case atStart => exact ⟨0, 0, rfl, Nat.zero_le _, rfl⟩
  case round =>
    obtain ⟨i, q, rfl, hi, hw⟩ := hrel
    have HW := Lib.hid hw
    rcases Nat.lt_or_ge i N with h | h
    · have hI : (i : Int) < (N : Int) := by omega
      obtain ⟨b, off, rfl, hbl, hc⟩ := HX.out.open (by have := HN.out; omega)
      obtain ⟨b', off', rfl, hbl', hc'⟩ := HX'.out.open (by have := HN'.out; omega)
      obtain ⟨c0, c1⟩ := hc i (by have := HN.out; omega)
      obtain ⟨d0, d1⟩ := hc' i (by have := HN'.out; omega)
      obtain ⟨s0, s1⟩ := HS.out i h
      rw [← s0] at d0
      rw [← s1] at d1
      clear hc hc' s0 s1
      generalize (l.getD i e0).t = t at c0 d0
      generalize (l.getD i e0).id = id at c1 d1
      have c0 : wr.cell? ⟨b, off + i * 2, none⟩ = some (.int .i64 t) := by rw [hw]; exact c0
      have c1 : wr.cell? ⟨b, off + i * 2 + 1, none⟩ = some (.int .i64 id) := by rw [hw]; exact c1
      have d0 : wr.cell? ⟨b', off' + i * 2, none⟩ = some (.int .i64 t) := by rw [hw]; exact d0
      have d1 : wr.cell? ⟨b', off' + i * 2 + 1, none⟩ = some (.int .i64 id) := by rw [hw]; exact d1
      clear hw
      go_wp2
      go_quiet (fail)
      go_wp2
      go_roundw
      case rel => exact ⟨i + 1, q + nq, by go_num, by omega, by rw [HW.out]; simp [World.drewN, Nat.add_assoc]⟩
      case measure => simp only [intOf]; omega
    · obtain rfl : i = N := by omega
      have hd : decide (i < i) = false := by simp
      clear hw
      go_wp2
      go_ret
      exact ⟨rfl, q, HW.out⟩
end Go.Proofs.YtalnepcbaegaeaaDoor
