/- WALKS: slices.SortStableFunc of items by key (up to 60), slices.Clone. -/
import Derived.Test.YtalnepcbaegaeaaDoorSymStable
namespace Go.Proofs.YtalnepcbaegaeaaDoor
open Go Go.RowKit SimPlain HeapPlain SymPlain

theorem sortStable_any (l0 : List Ev) (hbef : l0.Pairwise Bef) (N : Nat) (hN : N = l0.length) (h60 : N ≤ 60) (h0 : 0 < N) (g cap B : Nat) (w : World) (hrow : EtOwn w B (some ⟨g, 0, none⟩) cap l0) :
    Calls Tryd.prog 35 #[.slice (some ⟨g, 0, none⟩) N cap, fvK] w (StableRes l0 g cap B w) := by
  have hS := Lib.hid (stable_any l0 hbef N hN h60 h0 g cap B w hrow)
  clear hbef hN hrow
  unfold fvK at *
  go_enter Tryd.func35, Tryd.ntmps35
  go_wp2_with fail
  refine hS.out.mono ?_
  rintro e w2 ⟨W, rfl, hp, hs, hc⟩
  go_wp2
  go_end0
  exact ⟨W, rfl, hp, hs, hc⟩
/-- nothing to sort -/
theorem sortStable_none (a : Option Addr) (cap : Nat) (w : World) :
    Calls Tryd.prog 35 #[.slice a 0 cap, fvK] w fun e w' => e = .returned (.tuple #[]) ∧ w = w' := by
  have h1 : Hid (Calls Tryd.prog 61 #[.slice a 0 cap, .int .i64 0, .int .i64 0, fvK] w fun e w' => e = .returned (.tuple #[]) ∧ w = w') := Lib.hid <| by
    unfold fvK
    go_enter Tryd.func61, Tryd.ntmps61
    go_wp2
    refine wp_loop_rounds 1 ?_
    rw [rounds_succ]
    go_wp2
    go_end0
    exact ⟨rfl, rfl⟩
  have h2 : Hid (Calls Tryd.prog 47 #[.slice a 0 cap, .int .i64 0, fvK] w fun e w' => e = .returned (.tuple #[]) ∧ w = w') := Lib.hid <| by
    unfold fvK at *
    go_enter Tryd.func47, Tryd.ntmps47
    go_wp2
    refine wp_loop_rounds 1 ?_
    rw [rounds_succ]
    go_wp2_with fail
    refine h1.out.mono ?_
    rintro e w2 ⟨rfl, rfl⟩
    go_wp2
    refine wp_loop_rounds 1 ?_
    rw [rounds_succ]
    go_wp2
    go_end0
    exact ⟨rfl, rfl⟩
  clear h1
  unfold fvK at *
  go_enter Tryd.func35, Tryd.ntmps35
  go_wp2_with fail
  refine h2.out.mono ?_
  rintro e w2 ⟨rfl, rfl⟩
  go_wp2
  go_end0
  exact ⟨rfl, rfl⟩
end Go.Proofs.YtalnepcbaegaeaaDoor
