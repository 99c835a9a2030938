/- WALKS: slices.swapRangeCmpFunc, rotateCmpFunc of items. -/
import Derived.Test.YtalnepcbaegaeaaDoorItRow
import Derived.Test.YtalnepcbaegaeaaDoorSymPlain
import Derived.BigRegion
import Derived.BigQuiet
namespace Go.Proofs.YtalnepcbaegaeaaDoor
open Go Go.RowKit SimPlain HeapPlain SymPlain

theorem EtOwn.free {w : World} {B g cap : Nat} {l : List Ev} (h : EtOwn w B (some ⟨g, 0, none⟩) cap l) (h0 : 0 < l.length) (o : Nat) : w.frozen? ⟨g, o, none⟩ = false := by
  rcases h.2 with ⟨h', hz⟩ | ⟨g', cap', cur, h', hb, hg, hc, hm, hs, ht⟩
  · omega
  · simp only [Value.slice.injEq, Option.some.injEq, Addr.mk.injEq, true_and, and_true] at h'
    obtain ⟨rfl, rfl⟩ := h'
    simp [World.frozen?, hg]
theorem EtOwn.cells {w : World} {B g cap : Nat} {l : List Ev} (h : EtOwn w B (some ⟨g, 0, none⟩) cap l) (i : Nat) (hi : i < l.length) {x : Ev} (hx : l.getD i e0 = x) :
    w.cell? ⟨g, i * 2, none⟩ = some (.int .i64 x.t) ∧ w.cell? ⟨g, i * 2 + 1, none⟩ = some (.int .i64 x.id) := by
  subst hx
  obtain ⟨g', e, _, _, hc⟩ := h.open (by omega)
  obtain rfl : g = g' := by simpa using e
  exact hc i hi
theorem EtOwn.block {w : World} {B g cap : Nat} {l : List Ev} (h : EtOwn w B (some ⟨g, 0, none⟩) cap l) (h0 : 0 < l.length) : ∃ cs, w.heap[g]? = some (.cells cs 28 (0, 0)) := by
  rcases h.2 with ⟨h', hz⟩ | ⟨g', cap', cur, h', hb, hg, hc, hm, hs, ht⟩
  · omega
  · simp only [Value.slice.injEq, Option.some.injEq, Addr.mk.injEq, true_and, and_true] at h'
    obtain ⟨rfl, rfl⟩ := h'
    exact ⟨_, hg⟩
/-- an item stored -/
theorem EtOwn.set {w : World} {B g cap : Nat} {l : List Ev} (h : EtOwn w B (some ⟨g, 0, none⟩) cap l) (i : Nat) (hi : i < l.length) (e : Ev) :
    EtOwn ((w.setCell ⟨g, i * 2, none⟩ (.int .i64 e.t)).setCell ⟨g, i * 2 + 1, none⟩ (.int .i64 e.id)) B (some ⟨g, 0, none⟩) cap (l.set i e) := by
  unfold EtOwn
  rw [List.length_set]
  refine ⟨by rw [flat2_length, List.length_set], ?_⟩
  rcases h.2 with ⟨h', hz⟩ | ⟨g', cap', cur, h', hb, hg, hc, hm, hs, ht⟩
  · omega
  · simp only [Value.slice.injEq, Option.some.injEq, Addr.mk.injEq, true_and, and_true] at h'
    obtain ⟨rfl, rfl⟩ := h'
    refine .inr ⟨g, cap, (cur.setIfInBounds (i * 2) (.int .i64 e.t)).setIfInBounds (i * 2 + 1) (.int .i64 e.id), rfl, hb, ?_, hc, hm, by simpa using hs, ?_⟩
    · exact heap_setCell_same _ g _ _ _ _ (heap_setCell_same _ g _ _ _ _ hg)
    · apply List.ext_getElem?
      intro j
      rcases Nat.lt_or_ge j (l.length * 2) with hj | hj
      · have hj' : j / 2 * 2 + j % 2 = j := by omega
        have h3 := flat2_get (l.set i e) (j / 2) (j % 2) (by rw [List.length_set]; omega) (by omega)
        have h4 := flat2_get l (j / 2) (j % 2) (by omega) (by omega)
        rw [hj'] at h3 h4
        rw [h3, List.getElem?_take_of_lt hj, Array.getElem?_toList]
        have h5 : cur[j]? = (flat2 l)[j]? := by rw [← ht, List.getElem?_take_of_lt hj, Array.getElem?_toList]
        rw [getD_set e0 l i (j / 2) e hi]
        have hjs : j < cur.size := by omega
        simp only [Array.getElem?_setIfInBounds, Array.size_setIfInBounds]
        by_cases e1 : j / 2 = i
        · rw [if_pos e1]
          have : j = i * 2 ∨ j = i * 2 + 1 := by omega
          rcases this with h6 | h6
          · rw [if_neg (by omega), if_pos h6.symm, if_pos (by omega), show j % 2 = 0 by omega]; rfl
          · rw [if_pos h6.symm, if_pos (by omega), show j % 2 = 1 by omega]; rfl
        · rw [if_neg e1, if_neg (by omega), if_neg (by omega), h5, h4]
      · rw [List.getElem?_eq_none (by simp; omega), List.getElem?_eq_none (by rw [flat2_length, List.length_set]; exact hj)]
/-- the exchange of two items -/
def swapT (w : World) (g i j : Nat) (u v : Ev) : World :=
  (((w.setCell ⟨g, i * 2, none⟩ (.int .i64 v.t)).setCell ⟨g, i * 2 + 1, none⟩ (.int .i64 v.id)).setCell ⟨g, j * 2, none⟩ (.int .i64 u.t)).setCell ⟨g, j * 2 + 1, none⟩ (.int .i64 u.id)
theorem EtOwn.swap {w : World} {B g cap : Nat} {l : List Ev} (h : EtOwn w B (some ⟨g, 0, none⟩) cap l) (i j : Nat) (hi : i < l.length) (hj : j < l.length) {u v : Ev} (hu : l.getD i e0 = u) (hv : l.getD j e0 = v) :
    EtOwn (swapT w g i j u v) B (some ⟨g, 0, none⟩) cap (swapL e0 l i j) := by
  subst hu hv
  exact (h.set i hi _).set j (by simpa using hj) _
theorem Only.swapT (w : World) (g i j : Nat) (u v : Ev) : Only w (swapT w g i j u v) (fun k => k = g) := by
  have s : ∀ (W : World) (o : Nat) (x : Value), Only W (W.setCell ⟨g, o, none⟩ x) (fun k => k = g) := fun W o x => Only.setCell W ⟨g, o, none⟩ x (fun k => k = g) rfl
  exact (((s _ _ _).trans (s _ _ _) (fun _ _ c => c)).trans (s _ _ _) (fun _ _ c => c)).trans (s _ _ _) (fun _ _ c => c)
theorem EtOwn.drewN {w : World} {B cap : Nat} {a : Option Addr} {l : List Ev} (h : EtOwn w B a cap l) (n : Nat) : EtOwn (w.drewN n) B a cap l := h

set_option maxRecDepth 100000 in
set_option maxHeartbeats 4000000 in
theorem swapRange_any (P X M Y Q : List Ev) (g cap B : Nat) (fv : Value) (w : World) (N a b n : Nat) (hN : N = (P ++ (X ++ (M ++ (Y ++ Q)))).length) (ha : a = P.length) (hb : b = P.length + X.length + M.length) (hn : n = X.length) (hn2 : n = Y.length) (h100 : N ≤ 100)
    (hrow : EtOwn w B (some ⟨g, 0, none⟩) cap (P ++ (X ++ (M ++ (Y ++ Q))))) :
    Calls Tryd.prog 89 #[.slice (some ⟨g, 0, none⟩) N cap, .int .i64 a, .int .i64 b, .int .i64 n, fv] w
      fun e w' => e = .returned (.tuple #[]) ∧ EtOwn w' B (some ⟨g, 0, none⟩) cap (P ++ (Y ++ (M ++ (X ++ Q)))) ∧ Only w w' (fun k => k = g) := by
  have HN := Lib.hid hN
  have HA := Lib.hid ha
  have HBb := Lib.hid hb
  have Hn := Lib.hid hn
  have Hn2 := Lib.hid hn2
  have HRow := Lib.hid hrow
  have hbn : b + n ≤ N := by rw [hN, hb, hn]; simp only [List.length_append]; omega
  have han : a + n ≤ b := by rw [hb, ha, hn]; omega
  clear hN ha hb hn hn2 hrow
  go_enter Tryd.func89, Tryd.ntmps89
  go_wp2
  go_loopw [10] (fun iv wr => ∃ (i : Nat) (X1 X2 Y1 Y2 : List Ev), iv = .int .i64 i ∧ i ≤ n ∧ X1.length = i ∧ Y1.length = i ∧ X1 ++ X2 = X ∧ Y1 ++ Y2 = Y ∧ EtOwn wr B (some ⟨g, 0, none⟩) cap (P ++ (Y1 ++ (X2 ++ (M ++ (X1 ++ (Y2 ++ Q)))))) ∧ Only w wr (fun k => k = g))
    (fun iv _ => n - (intOf iv).toNat)
  case atStart => exact ⟨0, [], X, [], Y, rfl, Nat.zero_le _, rfl, rfl, rfl, rfl, by simpa using HRow.out, Only.refl _ _⟩
  case round =>
    obtain ⟨i, X1, X2, Y1, Y2, rfl, hi, hX1, hY1, hX, hY, hR, hO⟩ := hrel
    have HX := Lib.hid hX
    have HY := Lib.hid hY
    have HX1 := Lib.hid hX1
    have HY1 := Lib.hid hY1
    have HO := Lib.hid hO
    have hXl : X1.length + X2.length = n := by rw [Hn.out, ← hX, List.length_append]
    have hYl : Y1.length + Y2.length = n := by rw [Hn2.out, ← hY, List.length_append]
    clear hX hY hO
    rcases Nat.lt_or_ge i n with hlt | hge
    · obtain ⟨x, X3, rfl⟩ : ∃ x X3, X2 = x :: X3 := by cases X2 with | nil => simp at hXl; omega | cons x X3 => exact ⟨x, X3, rfl⟩
      obtain ⟨y, Y3, rfl⟩ : ∃ y Y3, Y2 = y :: Y3 := by cases Y2 with | nil => simp at hYl; omega | cons x X3 => exact ⟨x, X3, rfl⟩
      have eL : P ++ (Y1 ++ (x :: X3 ++ (M ++ (X1 ++ (y :: Y3 ++ Q))))) = (P ++ Y1) ++ x :: ((X3 ++ (M ++ X1)) ++ y :: (Y3 ++ Q)) := by simp
      rw [eL] at hR
      have p1 : a + i = (P ++ Y1).length := by rw [List.length_append, HA.out, hY1]
      have p2 : b + i = (P ++ Y1).length + 1 + (X3 ++ (M ++ X1)).length := by
        simp only [List.length_append, List.length_cons] at hXl ⊢
        have := HBb.out; have := HA.out; have := Hn.out; omega
      have lenL : ((P ++ Y1) ++ x :: ((X3 ++ (M ++ X1)) ++ y :: (Y3 ++ Q))).length = N := by
        rw [HN.out, ← HX.out, ← HY.out]
        simp only [List.length_append, List.length_cons]
        omega
      have gx : ((P ++ Y1) ++ x :: ((X3 ++ (M ++ X1)) ++ y :: (Y3 ++ Q))).getD (a + i) e0 = x := getD_mid e0 _ x _ p1
      have gy : ((P ++ Y1) ++ x :: ((X3 ++ (M ++ X1)) ++ y :: (Y3 ++ Q))).getD (b + i) e0 = y := by
        have := getD_mid e0 ((P ++ Y1) ++ x :: (X3 ++ (M ++ X1))) y (Y3 ++ Q) (i := b + i) (by rw [p2]; simp only [List.length_append, List.length_cons]; omega)
        simpa using this
      have hai : a + i < N := by omega
      have hbi : b + i < N := by omega
      obtain ⟨u0, u1⟩ := hR.cells (a + i) (by rw [lenL]; exact hai) gx
      obtain ⟨v0, v1⟩ := hR.cells (b + i) (by rw [lenL]; exact hbi) gy
      have f0 := hR.free (by rw [lenL]; omega) ((a + i) * 2)
      have f1 := hR.free (by rw [lenL]; omega) ((a + i) * 2 + 1)
      have f2 := hR.free (by rw [lenL]; omega) ((b + i) * 2)
      have f3 := hR.free (by rw [lenL]; omega) ((b + i) * 2 + 1)
      have hS := hR.swap (a + i) (b + i) (by rw [lenL]; exact hai) (by rw [lenL]; exact hbi) gx gy
      rw [swapL_mid e0 _ x _ y _ p1 p2] at hS
      have HS := Lib.hid hS
      clear hS hR eL p1 p2 lenL gx gy
      have ne00a : ¬ (a + i) * 2 = (b + i) * 2 := by omega
      have ne00b : ¬ (b + i) * 2 = (a + i) * 2 := by omega
      have ne01a : ¬ (a + i) * 2 = (b + i) * 2 + 1 := by omega
      have ne01b : ¬ (b + i) * 2 + 1 = (a + i) * 2 := by omega
      have ne10a : ¬ (a + i) * 2 + 1 = (b + i) * 2 := by omega
      have ne10b : ¬ (b + i) * 2 = (a + i) * 2 + 1 := by omega
      have ne11a : ¬ (a + i) * 2 + 1 = (b + i) * 2 + 1 := by omega
      have ne11b : ¬ (b + i) * 2 + 1 = (a + i) * 2 + 1 := by omega
      have hltI : (i : Int) < (n : Int) := by omega
      have i1 : (a : Int) + (i : Int) < (N : Int) := by omega
      have i2 : (b : Int) + (i : Int) < (N : Int) := by omega
      have z1 : (0 : Int) ≤ (a : Int) + (i : Int) := by omega
      have z2 : ((a : Int) + (i : Int)).toNat = a + i := by omega
      have z3 : (0 : Int) ≤ (b : Int) + (i : Int) := by omega
      have z4 : ((b : Int) + (i : Int)).toNat = b + i := by omega
      have Hlt := Lib.hid hlt
      have HX3 := Lib.hid hXl
      have HY3 := Lib.hid hYl
      clear hXl hYl hX1 hY1 hlt
      go_wp2
      go_region
      all_goals
        go_wp2
        go_roundw
        case rel =>
          refine ⟨i + 1, X1 ++ [x], X3, Y1 ++ [y], Y3, by go_num, Hlt.out, by simp [HX1.out], by simp [HY1.out], by rw [← HX.out]; simp, by rw [← HY.out]; simp, ?_, ?_⟩
          · have e : P ++ ((Y1 ++ [y]) ++ (X3 ++ (M ++ ((X1 ++ [x]) ++ (Y3 ++ Q))))) = (P ++ Y1) ++ y :: ((X3 ++ (M ++ X1)) ++ x :: (Y3 ++ Q)) := by simp
            rw [e]
            exact HS.out.drewN 1
          · exact (HO.out.trans (Only.swapT _ g (a + i) (b + i) x y) (fun _ _ c => c)).drewN 1
        case measure => simp only [intOf]; have := Hlt.out; omega
    · obtain rfl : i = n := by omega
      obtain rfl : X2 = [] := List.eq_nil_of_length_eq_zero (by omega)
      obtain rfl : Y2 = [] := List.eq_nil_of_length_eq_zero (by omega)
      have hltB : decide (i < i) = false := by simp
      have HR := Lib.hid hR
      clear hR
      go_wp2
      go_end0
      refine ⟨rfl, ?_, HO.out⟩
      have := HR.out
      rw [← HX.out, ← HY.out]
      simpa using this
end Go.Proofs.YtalnepcbaegaeaaDoor
