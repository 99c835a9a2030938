/- WALKS: slices.SortStableFunc of places by a closure (up to 60), slices.Clone. -/
import Derived.Test.YtdalffmmkhcdaaaIxStable
set_option linter.unusedVariables false
set_option linter.unusedSimpArgs false
namespace Go.Proofs.Ytdalffmmkhcdaaa
open Go Go.RowKit SimPlain HeapPlain SymPlain

theorem sortStable_any (l0 : List Ev) (hbef : l0.Pairwise Bef) (N : Nat) (hN : N = l0.length) (h60 : N ≤ 60) (h0 : 0 < N) (g cap : Nat) (B : IxE) (w : World) (hrow : IxOwn w B (some ⟨g, 0, none⟩) cap l0) :
    Calls Try.prog 24 #[.slice (some ⟨g, 0, none⟩) N cap, (fvK B)] w (StableRes l0 g cap B w) := by
  have hS := Lib.hid (stable_any l0 hbef N hN h60 h0 g cap B w hrow)
  clear hbef hN hrow
  unfold fvK at *
  go_enter Try.func24, Try.ntmps24
  go_wp2_with fail
  refine hS.out.mono ?_
  rintro e w2 ⟨W, rfl, hp, hs, hc⟩
  go_wp2
  go_end0
  exact ⟨W, rfl, hp, hs, hc⟩
/-- nothing to sort -/
theorem sortStable_none (a : Option Addr) (cap : Nat) (B : IxE) (w : World) :
    Calls Try.prog 24 #[.slice a 0 cap, (fvK B)] w fun e w' => e = .returned (.tuple #[]) ∧ w = w' := by
  have h1 : Hid (Calls Try.prog 32 #[.slice a 0 cap, .int .i64 0, .int .i64 0, (fvK B)] w fun e w' => e = .returned (.tuple #[]) ∧ w = w') := Lib.hid <| by
    unfold fvK
    go_enter Try.func32, Try.ntmps32
    go_wp2
    refine wp_loop_rounds 1 ?_
    rw [rounds_succ]
    go_wp2
    go_end0
    exact ⟨rfl, rfl⟩
  have h2 : Hid (Calls Try.prog 28 #[.slice a 0 cap, .int .i64 0, (fvK B)] w fun e w' => e = .returned (.tuple #[]) ∧ w = w') := Lib.hid <| by
    unfold fvK at *
    go_enter Try.func28, Try.ntmps28
    go_wp2
    refine wp_loop_rounds 1 ?_
    rw [rounds_succ]
    go_wp2_with fail
    refine h1.out.mono ?_
    rintro e w2 ⟨rfl, rfl⟩
    go_wp2
    refine wp_loop_rounds 1 ?_
    rw [rounds_succ]
    go_wp2
    go_end0
    exact ⟨rfl, rfl⟩
  clear h1
  unfold fvK at *
  go_enter Try.func24, Try.ntmps24
  go_wp2_with fail
  refine h2.out.mono ?_
  rintro e w2 ⟨rfl, rfl⟩
  go_wp2
  go_end0
  exact ⟨rfl, rfl⟩
end Go.Proofs.Ytdalffmmkhcdaaa
