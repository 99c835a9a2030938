/- WALK: an item that came in, opened. -/
import Derived.Test.YtalnepcbaegaeaaDoorItOpen
set_option linter.unusedVariables false
set_option linter.unusedSimpArgs false
namespace Go.Proofs.YtalnepcbaegaeaaDoor
open Go Go.RowKit Go.Deep Go.ChangeShapes Go.WideShapes SimPlain

set_option maxRecDepth 100000 in
theorem open_item {H : Type} {enc : TypeId × Value → H} {w : World} {base : Nat} {spare : Nat → Bool} {held : Bool} {v : Value} {d : DataW H} {ps : List MemPlace}
    (hval : Value.okWide Tryd.prog w .any base 28 v) (hd : DataW.Trod enc Tryd.prog w 0 spare held 28 v d ps) : ∃ a b : Int, v = .agg #[.int .i64 a, .int .i64 b] := by
  have ce : Tryd.prog.cellsOf 28 = 2 := by kernel_rfl
  have c3 : Tryd.prog.cellsOf 3 = 1 := by kernel_rfl
  obtain ⟨cs, rfl, hs⟩ := okWide_struct Tryd.underlying28 hval
  rw [ce] at hs
  obtain ⟨fuel, hf⟩ := hd
  obtain ⟨l⟩ := cs
  match l, hs with
  | [v0, v1], _ =>
    have h2 : DataW.trod enc Tryd.prog w 0 spare held fuel 28 [v0, v1] = some (d, ps) := by simpa [Value.cells] using hf
    obtain ⟨xs, k, hk, hxy, _, hxl, hf⟩ := DataW.trod_struct Tryd.underlying28 h2
    match xs, hxl with
    | [y0, y1], _ =>
      have g0 := hf 0 _ rfl
      have g1 := hf 1 _ rfl
      simp [c3] at g0 g1
      obtain ⟨n0, q0, _, w0⟩ := DataW.trod_int Tryd.underlying3 g0
      obtain ⟨n1, q1, _, w1⟩ := DataW.trod_int Tryd.underlying3 g1
      simp only [List.cons.injEq, and_true] at q0 q1
      subst q0; subst q1
      exact ⟨n0, n1, rfl⟩
end Go.Proofs.YtalnepcbaegaeaaDoor
