/- WALKS: plain.Told, ricksteadsame.Error. -/
import Derived.Test.YtalnepcbaegaeaaGreatDoorWithin
import Derived.Test.YtalnepcbaegaeaaGreatDoorAs
set_option linter.unusedVariables false
set_option linter.unusedSimpArgs false
namespace Go.Proofs.YtalnepcbaegaeaaGreatDoor
open Go Go.RowKit Go.Extern.Stop Go.Stop Go.Extern

/-- what package errors' variable holds -/
def Handle (w : World) : Prop := w.cell? ⟨0, 0, none⟩ = some (.iface 112 (.agg #[.pointer (some ⟨9, 29, none⟩)]))
theorem Handle.lt {w : World} (h : Handle w) : 0 < w.heap.size := World.block_lt_of_cell? w _ h
theorem Handle.below {w w' : World} {B : Nat} (h : Handle w) (hb : Below B w w') (hB : 0 < B) : Handle w' := by
  unfold Handle at *
  rw [hb.cell (p := ⟨0, 0, none⟩) hB]; exact h
theorem Handle.to {w w' : World} (h : Handle w) (hb : Below w.heap.size w w') : Handle w' := h.below hb h.lt

theorem told_nil (w : World) : Calls Tryz.prog 20 #[.nilIface] w fun e w' => e = .returned (.int .i64 0) ∧ w = w' := by
  go_enter Tryz.func20, Tryz.ntmps20
  go_wp2
  go_ret
  exact ⟨rfl, rfl⟩
set_option maxHeartbeats 4000000 in
theorem told_err (n : Int) (w : World) (hg : Handle w) : Calls Tryz.prog 20 #[.iface 55 (.int .i64 n)] w fun e w' => e = .returned (.int .i64 n) ∧ Below w.heap.size w w' := by
  have hlt := hg.lt
  unfold Handle at hg
  have hgA : (w.alloc (.cells #[.int .i64 0] 55)).cell? ⟨0, 0, none⟩ = some (.iface 112 (.agg #[.pointer (some ⟨9, 29, none⟩)])) := by
    rw [World.cell?_alloc_lt _ _ ⟨0, 0, none⟩ hlt]; exact hg
  have htA : (w.alloc (.cells #[.int .i64 0] 55)).cell? ⟨w.heap.size, 0, none⟩ = some (.int .i64 0) := by simp
  have hfA : (w.alloc (.cells #[.int .i64 0] 55)).frozen? ⟨w.heap.size, 0, none⟩ = false := by simp
  go_enter Tryz.func20, Tryz.ntmps20
  go_wp2_with fail
  refine (as_hit n ⟨w.heap.size, 0, none⟩ (.int .i64 0) _ hgA htA hfA).mono ?_
  rintro e w' ⟨rfl, hw⟩
  have hb : Below w.heap.size w w' := by
    rw [hw]
    exact ((((((Below.refl w.heap.size w).alloc (Nat.le_refl _) _).alloc (by simp) _).alloc (by simp; omega) _).alloc (by simp; omega) _).alloc (by simp; omega) _).setCell (p := ⟨w.heap.size, 0, none⟩) (Nat.le_refl _) _
  have hc : w'.cell? ⟨w.heap.size, 0, none⟩ = some (.int .i64 n) := by
    rw [hw]
    apply World.cell?_setCell_same
    rw [World.cell?_alloc_lt _ _ ⟨w.heap.size, 0, none⟩ (by simp; omega), World.cell?_alloc_lt _ _ ⟨w.heap.size, 0, none⟩ (by simp; omega), World.cell?_alloc_lt _ _ ⟨w.heap.size, 0, none⟩ (by simp; omega), World.cell?_alloc_lt _ _ ⟨w.heap.size, 0, none⟩ (by simp), htA]
  clear hw
  go_wp2
  go_ret
  exact ⟨rfl, hb⟩
theorem Error_any (n k : Int) (w : World) (hg : Handle w) : Calls Tryz.prog 7 #[errV 55 n, .int .i64 k] w fun e w' => e = .returned (.bool (decide (n = k))) ∧ Below w.heap.size w w' := by
  by_cases h0 : n = 0
  · subst h0
    rw [errV_ok]
    go_enter Tryz.func7, Tryz.ntmps7
    go_wp2_with fail
    refine (told_nil _).mono ?_
    rintro e w' ⟨rfl, rfl⟩
    go_wp2
    go_ret
    exact ⟨ret_bool (by first | rfl | (by_cases h : (0 : Int) = k <;> simp [h])), Below.refl _ _⟩
  · rw [errV_bad h0]
    clear h0
    go_enter Tryz.func7, Tryz.ntmps7
    go_wp2_with fail
    refine (told_err n _ hg).mono ?_
    rintro e w' ⟨rfl, hb⟩
    go_wp2
    go_ret
    exact ⟨ret_bool (by first | rfl | (by_cases h : n = k <;> simp [h])), hb⟩
end Go.Proofs.YtalnepcbaegaeaaGreatDoor
