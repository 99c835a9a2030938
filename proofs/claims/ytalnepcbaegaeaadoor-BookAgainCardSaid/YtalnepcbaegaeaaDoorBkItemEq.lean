/- WALK: two items compared; how long a line is. -/
import Derived.Test.YtalnepcbaegaeaaDoorBkPushB
import Derived.Test.YtalnepcbaegaeaaDoorBkNext
import Derived.Deep.DeepCutAuto
import Derived.Laws.StructEq
set_option linter.unusedVariables false
set_option linter.unusedSimpArgs false
namespace Go.Proofs.YtalnepcbaegaeaaDoor
open Go Go.RowKit SimPlain HeapPlain BookPlain

theorem item_guard (op : BinOp) (x y : Operand) (xs ys : Array Value) (w : World) : (eqGuard op 28 x y (.agg xs) (.agg ys)).run Tryd.prog w = .ok () w := run_eqGuard_agg w op _ x y xs ys (by kernel_rfl)

theorem item_neq (t id : Int) (w : World) : (binOp .neq 28 (.agg #[.int .i64 t, .int .i64 id]) (.agg #[.int .i64 t, .int .i64 id])).run Tryd.prog w = .ok (.bool false) w := by
  have u3 := Tryd.underlying3
  have a3 := Tryd.isAgg3
  have z3 := Tryd.sizeOf3
  have hS : Tryd.prog.underlying 28 = some (.struct (Tryd.prog.fieldsOf 28)) := by kernel_rfl
  have hp : Tryd.prog.stoodInHeld 28 = false := by kernel_rfl
  rw [run_neq_struct, show (10000 : Nat) = 9999 + 1 from rfl, run_equalIn_agg w 9999 28 _ _ hS hp]
  simp only [Program.fieldsOf, Tryd.underlying28]
  go_simp
theorem lineB_len (s : List UInt8) (h : s.length ≤ 60) : (lineB s).length ≤ 90 := by
  unfold lineB
  have := itoa_len (sumB s : Nat) (by omega) (by have := sumAt_lt s s.length; unfold sumB; omega)
  simp; omega
theorem pushB_len (t id : Int) (h0 : -1000000 ≤ t) (h1 : t ≤ 1000000) (d0 : 0 ≤ id) (d1 : id ≤ 1000000) : (pushB t id).length ≤ 60 := by
  unfold pushB
  have := itoa_len t (by omega) (by omega)
  have := itoa_len id (by omega) (by omega)
  simp; omega
theorem BookQ.grow {w : World} {B S : Nat} {F : Nat → Prop} {q : List Ev} {seq : Int} {T : List UInt8} (h : BookQ w B S F q seq T) (W : World) (hB : B ≤ W.heap.size) : BookQ w B S (Grow F W w) q seq T := by
  obtain ⟨H, a, cap, l, p, v, g⟩ := h
  exact ⟨H, a, cap, l, p, v, ⟨g.heap, g.ord, g.perm, g.sorted, g.top, g.s, g.pp, g.txt, g.tn, g.sep, fun k hk => .inl (g.foot k hk), .inl g.fs, fun k hk => .inl (g.fv k hk), fun k hk => by
    rcases hk with hk | hk
    · exact g.fb k hk
    · omega⟩⟩
end Go.Proofs.YtalnepcbaegaeaaDoor
