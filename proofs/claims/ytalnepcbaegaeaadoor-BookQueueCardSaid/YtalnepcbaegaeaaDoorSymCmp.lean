/- WALKS: cmp.Compare, order.byKey. -/
import Derived.Test.YtalnepcbaegaeaaDoorSymRot
namespace Go.Proofs.YtalnepcbaegaeaaDoor
open Go Go.RowKit SimPlain HeapPlain SymPlain

theorem isNaN_any (x : Int) (w : World) : Calls Tryd.prog 63 #[.int .i64 x] w fun e w' => e = .returned (.bool false) ∧ w = w' := by
  have h : (x != x) = false := by simp
  go_enter Tryd.func63, Tryd.ntmps63
  go_wp2
  go_ret
  exact ⟨rfl, rfl⟩
/-- what cmp.Compare tells -/
def cmpZ (x y : Int) : Int := if x < y then -1 else if y < x then 1 else 0
theorem cmpZ_less {x y : Int} (h : x < y) : cmpZ x y = -1 := by unfold cmpZ; rw [if_pos h]
theorem cmpZ_not {x y : Int} (h : ¬ x < y) : 0 ≤ cmpZ x y := by unfold cmpZ; rw [if_neg h]; split <;> decide
theorem compare_any (x y : Int) (w : World) : Calls Tryd.prog 48 #[.int .i64 x, .int .i64 y] w fun e w' => e = .returned (.int .i64 (cmpZ x y)) ∧ w = w' := by
  rcases Int.lt_trichotomy x y with h | h | h
  · rw [cmpZ_less h]
    go_enter Tryd.func48, Tryd.ntmps48
    go_wp2_with fail
    refine (isNaN_any x w).mono ?_
    rintro e w' ⟨rfl, rfl⟩
    go_wp2_with fail
    refine (isNaN_any y w).mono ?_
    rintro e w' ⟨rfl, rfl⟩
    go_wp2
    go_ret
    exact ⟨rfl, rfl⟩
  · subst h
    rw [show cmpZ x x = 0 by simp [cmpZ]]
    have h1 : decide (x < x) = false := by simp
    go_enter Tryd.func48, Tryd.ntmps48
    go_wp2_with fail
    refine (isNaN_any x w).mono ?_
    rintro e w' ⟨rfl, rfl⟩
    go_wp2_with fail
    refine (isNaN_any x w).mono ?_
    rintro e w' ⟨rfl, rfl⟩
    go_wp2
    go_ret
    exact ⟨rfl, rfl⟩
  · rw [show cmpZ x y = 1 by unfold cmpZ; rw [if_neg (by omega), if_pos h]]
    go_enter Tryd.func48, Tryd.ntmps48
    go_wp2_with fail
    refine (isNaN_any x w).mono ?_
    rintro e w' ⟨rfl, rfl⟩
    go_wp2_with fail
    refine (isNaN_any y w).mono ?_
    rintro e w' ⟨rfl, rfl⟩
    go_wp2
    go_ret
    exact ⟨rfl, rfl⟩
def itV (e : Ev) : Value := .agg #[.int .i64 e.t, .int .i64 e.id]
theorem byKey_any (x y : Ev) (w : World) : Calls Tryd.prog 36 #[itV x, itV y] w fun e w' => e = .returned (.int .i64 (cmpZ x.t y.t)) ∧ Only w w' (fun _ => False) := by
  have hC := fun W => compare_any x.t y.t W
  have HC := Lib.hid hC
  clear hC
  unfold itV
  have o1 : Only w ((w.alloc (.cells #[.int .i64 x.t, .int .i64 x.id] 28)).alloc (.cells #[.int .i64 y.t, .int .i64 y.id] 28)) (fun _ => False) :=
    (Only.alloc _ _ (fun _ => False)).trans (Only.alloc _ _ (fun _ => False)) (fun _ _ c => c)
  have HO := Lib.hid o1
  clear o1
  go_enter Tryd.func36, Tryd.ntmps36
  go_wp2_with fail
  refine (HC.out _).mono ?_
  rintro e w' ⟨rfl, rfl⟩
  go_wp2
  go_ret
  exact ⟨rfl, HO.out⟩
end Go.Proofs.YtalnepcbaegaeaaDoor
