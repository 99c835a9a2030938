/- WALKS: slices.swapRangeCmpFunc, rotateCmpFunc of places. -/
import Derived.Test.YtdalffmmkhcdaaaIxRow
import Derived.Test.YtdalffmmkhcdaaaSymPlain
import Derived.BigRegion
import Derived.BigQuiet
set_option linter.unusedVariables false
set_option linter.unusedSimpArgs false
namespace Go.Proofs.Ytdalffmmkhcdaaa
open Go Go.RowKit SimPlain HeapPlain SymPlain

set_option maxRecDepth 100000 in
set_option maxHeartbeats 4000000 in
theorem swapRange_any (P X M Y Q : List Ev) (g cap : Nat) (B : IxE) (fv : Value) (w : World) (N a b n : Nat) (hN : N = (P ++ (X ++ (M ++ (Y ++ Q)))).length) (ha : a = P.length) (hb : b = P.length + X.length + M.length) (hn : n = X.length) (hn2 : n = Y.length) (h100 : N ≤ 100)
    (hrow : IxOwn w B (some ⟨g, 0, none⟩) cap (P ++ (X ++ (M ++ (Y ++ Q))))) :
    Calls Try.prog 37 #[.slice (some ⟨g, 0, none⟩) N cap, .int .i64 a, .int .i64 b, .int .i64 n, fv] w
      fun e w' => e = .returned (.tuple #[]) ∧ IxOwn w' B (some ⟨g, 0, none⟩) cap (P ++ (Y ++ (M ++ (X ++ Q)))) ∧ Only w w' (fun k => k = g) := by
  have HN := Lib.hid hN
  have HA := Lib.hid ha
  have HBb := Lib.hid hb
  have Hn := Lib.hid hn
  have Hn2 := Lib.hid hn2
  have HRow := Lib.hid hrow
  have hbn : b + n ≤ N := by rw [hN, hb, hn]; simp only [List.length_append]; omega
  have han : a + n ≤ b := by rw [hb, ha, hn]; omega
  clear hN ha hb hn hn2 hrow
  go_enter Try.func37, Try.ntmps37
  go_wp2
  go_loopw [10] (fun iv wr => ∃ (i : Nat) (X1 X2 Y1 Y2 : List Ev), iv = .int .i64 i ∧ i ≤ n ∧ X1.length = i ∧ Y1.length = i ∧ X1 ++ X2 = X ∧ Y1 ++ Y2 = Y ∧ IxOwn wr B (some ⟨g, 0, none⟩) cap (P ++ (Y1 ++ (X2 ++ (M ++ (X1 ++ (Y2 ++ Q)))))) ∧ Only w wr (fun k => k = g))
    (fun iv _ => n - (intOf iv).toNat)
  case atStart => exact ⟨0, [], X, [], Y, rfl, Nat.zero_le _, rfl, rfl, rfl, rfl, by simpa using HRow.out, Only.refl _ _⟩
  case round =>
    obtain ⟨i, X1, X2, Y1, Y2, rfl, hi, hX1, hY1, hX, hY, hR, hO⟩ := hrel
    have HX := Lib.hid hX
    have HY := Lib.hid hY
    have HX1 := Lib.hid hX1
    have HY1 := Lib.hid hY1
    have HO := Lib.hid hO
    have hXl : X1.length + X2.length = n := by rw [Hn.out, ← hX, List.length_append]
    have hYl : Y1.length + Y2.length = n := by rw [Hn2.out, ← hY, List.length_append]
    clear hX hY hO
    rcases Nat.lt_or_ge i n with hlt | hge
    · obtain ⟨x, X3, rfl⟩ : ∃ x X3, X2 = x :: X3 := by cases X2 with | nil => simp at hXl; omega | cons x X3 => exact ⟨x, X3, rfl⟩
      obtain ⟨y, Y3, rfl⟩ : ∃ y Y3, Y2 = y :: Y3 := by cases Y2 with | nil => simp at hYl; omega | cons x X3 => exact ⟨x, X3, rfl⟩
      have eL : P ++ (Y1 ++ (x :: X3 ++ (M ++ (X1 ++ (y :: Y3 ++ Q))))) = (P ++ Y1) ++ x :: ((X3 ++ (M ++ X1)) ++ y :: (Y3 ++ Q)) := by simp
      rw [eL] at hR
      have p1 : a + i = (P ++ Y1).length := by rw [List.length_append, HA.out, hY1]
      have p2 : b + i = (P ++ Y1).length + 1 + (X3 ++ (M ++ X1)).length := by
        simp only [List.length_append, List.length_cons] at hXl ⊢
        have := HBb.out; have := HA.out; have := Hn.out; omega
      have lenL : ((P ++ Y1) ++ x :: ((X3 ++ (M ++ X1)) ++ y :: (Y3 ++ Q))).length = N := by
        rw [HN.out, ← HX.out, ← HY.out]
        simp only [List.length_append, List.length_cons]
        omega
      have gx : ((P ++ Y1) ++ x :: ((X3 ++ (M ++ X1)) ++ y :: (Y3 ++ Q))).getD (a + i) e0 = x := getD_mid e0 _ x _ p1
      have gy : ((P ++ Y1) ++ x :: ((X3 ++ (M ++ X1)) ++ y :: (Y3 ++ Q))).getD (b + i) e0 = y := by
        have := getD_mid e0 ((P ++ Y1) ++ x :: (X3 ++ (M ++ X1))) y (Y3 ++ Q) (i := b + i) (by rw [p2]; simp only [List.length_append, List.length_cons]; omega)
        simpa using this
      have hai : a + i < N := by omega
      have hbi : b + i < N := by omega
      have u0 := hR.cells (a + i) (by rw [lenL]; exact hai) gx
      have v0 := hR.cells (b + i) (by rw [lenL]; exact hbi) gy
      have f0 := hR.free (by rw [lenL]; omega) (a + i)
      have f2 := hR.free (by rw [lenL]; omega) (b + i)
      have hS := hR.swap (a + i) (b + i) (by rw [lenL]; exact hai) (by rw [lenL]; exact hbi) gx gy
      rw [swapL_mid e0 _ x _ y _ p1 p2] at hS
      have HS := Lib.hid hS
      clear hS hR eL p1 p2 lenL gx gy
      have ne00a : ¬ (a + i) = (b + i) := by omega
      have ne00b : ¬ (b + i) = (a + i) := by omega
      have hltI : (i : Int) < (n : Int) := by omega
      have i1 : (a : Int) + (i : Int) < (N : Int) := by omega
      have i2 : (b : Int) + (i : Int) < (N : Int) := by omega
      have z1 : (0 : Int) ≤ (a : Int) + (i : Int) := by omega
      have z2 : ((a : Int) + (i : Int)).toNat = a + i := by omega
      have z3 : (0 : Int) ≤ (b : Int) + (i : Int) := by omega
      have z4 : ((b : Int) + (i : Int)).toNat = b + i := by omega
      have Hlt := Lib.hid hlt
      have HX3 := Lib.hid hXl
      have HY3 := Lib.hid hYl
      clear hXl hYl hX1 hY1 hlt
      go_wp2
      go_region
      all_goals
        go_wp2
        go_roundw
        case rel =>
          refine ⟨i + 1, X1 ++ [x], X3, Y1 ++ [y], Y3, by go_num, Hlt.out, by simp [HX1.out], by simp [HY1.out], by rw [← HX.out]; simp, by rw [← HY.out]; simp, ?_, ?_⟩
          · have e : P ++ ((Y1 ++ [y]) ++ (X3 ++ (M ++ ((X1 ++ [x]) ++ (Y3 ++ Q))))) = (P ++ Y1) ++ y :: ((X3 ++ (M ++ X1)) ++ x :: (Y3 ++ Q)) := by simp
            rw [e]
            exact HS.out.drewN 1
          · exact (HO.out.trans (Only.swapT _ g (a + i) (b + i) x y) (fun _ _ c => c)).drewN 1
        case measure => simp only [intOf]; have := Hlt.out; omega
    · obtain rfl : i = n := by omega
      obtain rfl : X2 = [] := List.eq_nil_of_length_eq_zero (by omega)
      obtain rfl : Y2 = [] := List.eq_nil_of_length_eq_zero (by omega)
      have hltB : decide (i < i) = false := by simp
      have HR := Lib.hid hR
      clear hR
      go_wp2
      go_end0
      refine ⟨rfl, ?_, HO.out⟩
      have := HR.out
      rw [← HX.out, ← HY.out]
      simpa using this
end Go.Proofs.Ytdalffmmkhcdaaa
