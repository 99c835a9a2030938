/- from the row's list to what package desk's variable holds -/
import Derived.Test.YtfejlkgddnamoaaGreatDoorLift
import Derived.Test.YtfejlkgddnamoaaGreatDoorDeskNums
set_option linter.unusedVariables false
set_option linter.unusedSimpArgs false
namespace Go.Proofs.YtfejlkgddnamoaaGreatDoor
open Go Go.RowKit

theorem wf_int {n : Int} (h : (Lit.int .i64 n).wf = true) : -9223372036854775808 ≤ n ∧ n ≤ 9223372036854775807 := by
  simp [Lit.wf, IntKind.min, IntKind.max, IntKind.signed, IntKind.bits] at h
  omega
theorem bad_of {text : List UInt8} {r : List (String × DataW Unit)} {W : World} (h : laidMet Tryz.prog (("rickstead/desk.errBad", .iface "*errors.errorString" (.ptr (.agg [.lit (.string text)]))) :: r) W) : BadG W := by
  have hg : Tryz.prog.globalNamed "rickstead/desk.errBad" = some 1 := by kernel_rfl
  obtain ⟨a0, s0, hv0, -, -, -⟩ := laid_sentinel h hg (ti := 27) (by kernel_rfl) Tryz.underlying27 row_es Tryz.underlying184 Tryz.underlying186 rfl rfl Tryz.underlying9 cells_es cells_str
  exact ⟨.pointer (some a0), by simpa using World.var?_cell hg hv0 0⟩
end Go.Proofs.YtfejlkgddnamoaaGreatDoor
