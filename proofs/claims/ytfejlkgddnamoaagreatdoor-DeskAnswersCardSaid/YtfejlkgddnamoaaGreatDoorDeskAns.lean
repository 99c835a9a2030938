/- WALK: the law DeskAnswers. -/
import Derived.Test.YtfejlkgddnamoaaGreatDoorDocSession
set_option linter.unusedVariables false
set_option linter.unusedSimpArgs false
namespace Go.Proofs.YtfejlkgddnamoaaGreatDoor
open Go Go.RowKit SimPlain HeapPlain BookPlain NumPlain SpPlain LinesPlain

set_option maxRecDepth 100000 in
set_option maxHeartbeats 2000000 in
theorem DeskAnswers_walk (s : List UInt8) (w : World) (env : Env w) (hg : Handle w) (hbad : BadG w) (hs : s.length ≤ 9223372036854775807) :
    Calls Tryz.prog 4 #[.string ⟨s.toArray⟩] w fun e w' => e = .returned (.bool true) ∧ Below w.heap.size w w' := by
  have HR := Lib.hid (Run_any s w env hg hbad hs)
  have HS := Lib.hid (fun W => Session_any s W hs)
  obtain ⟨Y, hY⟩ : ∃ Y : ByteArray, Y = ⟨s.toArray⟩ := ⟨_, rfl⟩
  obtain ⟨X, hX⟩ : ∃ X : ByteArray, X = ⟨(runP s).toArray⟩ := ⟨_, rfl⟩
  rw [← hY, ← hX] at HR HS
  rw [← hY]
  clear hY hX env hg hbad hs
  go_enter Tryz.func4, Tryz.ntmps4
  go_wp2_with fail
  refine HR.out.mono ?_
  rintro e w1 ⟨rfl, b1⟩
  go_wp2_with fail
  refine (HS.out _).mono ?_
  rintro e w2 ⟨rfl, b2⟩
  have hb : (X.toList == X.toList) = true := by simp
  go_wp2
  go_ret
  exact ⟨by simp, b1.trans (b2.mono b1.size)⟩
end Go.Proofs.YtfejlkgddnamoaaGreatDoor
