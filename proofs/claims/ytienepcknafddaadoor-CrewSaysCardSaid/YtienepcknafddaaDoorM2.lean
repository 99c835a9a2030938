/- WALKS: slices.swapRangeCmpFunc, rotateCmpFunc of items. · WALK: slices.rotateCmpFunc of items. · WALKS: cmp.Compare, order.byKey. · WALK: slices.insertionSortCmpFunc of items by key. -/
import Derived.Test.YtienepcknafddaaDoorM1
import Derived.BigRegion
import Derived.BigQuiet
section
set_option linter.unusedVariables false
set_option linter.unusedSimpArgs false
namespace Go.Proofs.YtienepcknafddaaDoor
open Go Go.RowKit SimPlain HeapPlain SymPlain

theorem EtOwn.free {w : World} {B g cap : Nat} {l : List Ev} (h : EtOwn w B (some ⟨g, 0, none⟩) cap l) (h0 : 0 < l.length) (o : Nat) : w.frozen? ⟨g, o, none⟩ = false := by
  rcases h.2 with ⟨h', hz⟩ | ⟨g', cap', cur, h', hb, hg, hc, hm, hs, ht⟩
  · omega
  · simp only [Value.slice.injEq, Option.some.injEq, Addr.mk.injEq, true_and, and_true] at h'
    obtain ⟨rfl, rfl⟩ := h'
    simp [World.frozen?, hg]
theorem EtOwn.cells {w : World} {B g cap : Nat} {l : List Ev} (h : EtOwn w B (some ⟨g, 0, none⟩) cap l) (i : Nat) (hi : i < l.length) {x : Ev} (hx : l.getD i e0 = x) :
    w.cell? ⟨g, i * 2, none⟩ = some (.int .i64 x.t) ∧ w.cell? ⟨g, i * 2 + 1, none⟩ = some (.int .i64 x.id) := by
  subst hx
  obtain ⟨g', e, _, _, hc⟩ := h.open (by omega)
  obtain rfl : g = g' := by simpa using e
  exact hc i hi
theorem EtOwn.block {w : World} {B g cap : Nat} {l : List Ev} (h : EtOwn w B (some ⟨g, 0, none⟩) cap l) (h0 : 0 < l.length) : ∃ cs, w.heap[g]? = some (.cells cs 34 (0, 0)) := by
  rcases h.2 with ⟨h', hz⟩ | ⟨g', cap', cur, h', hb, hg, hc, hm, hs, ht⟩
  · omega
  · simp only [Value.slice.injEq, Option.some.injEq, Addr.mk.injEq, true_and, and_true] at h'
    obtain ⟨rfl, rfl⟩ := h'
    exact ⟨_, hg⟩
/-- an item stored -/
theorem EtOwn.set {w : World} {B g cap : Nat} {l : List Ev} (h : EtOwn w B (some ⟨g, 0, none⟩) cap l) (i : Nat) (hi : i < l.length) (e : Ev) :
    EtOwn ((w.setCell ⟨g, i * 2, none⟩ (.int .i64 e.t)).setCell ⟨g, i * 2 + 1, none⟩ (.int .i64 e.id)) B (some ⟨g, 0, none⟩) cap (l.set i e) := by
  unfold EtOwn
  rw [List.length_set]
  refine ⟨by rw [flat2_length, List.length_set], ?_⟩
  rcases h.2 with ⟨h', hz⟩ | ⟨g', cap', cur, h', hb, hg, hc, hm, hs, ht⟩
  · omega
  · simp only [Value.slice.injEq, Option.some.injEq, Addr.mk.injEq, true_and, and_true] at h'
    obtain ⟨rfl, rfl⟩ := h'
    refine .inr ⟨g, cap, (cur.setIfInBounds (i * 2) (.int .i64 e.t)).setIfInBounds (i * 2 + 1) (.int .i64 e.id), rfl, hb, ?_, hc, hm, by simpa using hs, ?_⟩
    · exact heap_setCell_same _ g _ _ _ _ (heap_setCell_same _ g _ _ _ _ hg)
    · apply List.ext_getElem?
      intro j
      rcases Nat.lt_or_ge j (l.length * 2) with hj | hj
      · have hj' : j / 2 * 2 + j % 2 = j := by omega
        have h3 := flat2_get (l.set i e) (j / 2) (j % 2) (by rw [List.length_set]; omega) (by omega)
        have h4 := flat2_get l (j / 2) (j % 2) (by omega) (by omega)
        rw [hj'] at h3 h4
        rw [h3, List.getElem?_take_of_lt hj, Array.getElem?_toList]
        have h5 : cur[j]? = (flat2 l)[j]? := by rw [← ht, List.getElem?_take_of_lt hj, Array.getElem?_toList]
        rw [getD_set e0 l i (j / 2) e hi]
        have hjs : j < cur.size := by omega
        simp only [Array.getElem?_setIfInBounds, Array.size_setIfInBounds]
        by_cases e1 : j / 2 = i
        · rw [if_pos e1]
          have : j = i * 2 ∨ j = i * 2 + 1 := by omega
          rcases this with h6 | h6
          · rw [if_neg (by omega), if_pos h6.symm, if_pos (by omega), show j % 2 = 0 by omega]; rfl
          · rw [if_pos h6.symm, if_pos (by omega), show j % 2 = 1 by omega]; rfl
        · rw [if_neg e1, if_neg (by omega), if_neg (by omega), h5, h4]
      · rw [List.getElem?_eq_none (by simp; omega), List.getElem?_eq_none (by rw [flat2_length, List.length_set]; exact hj)]
/-- the exchange of two items -/
def swapT (w : World) (g i j : Nat) (u v : Ev) : World :=
  (((w.setCell ⟨g, i * 2, none⟩ (.int .i64 v.t)).setCell ⟨g, i * 2 + 1, none⟩ (.int .i64 v.id)).setCell ⟨g, j * 2, none⟩ (.int .i64 u.t)).setCell ⟨g, j * 2 + 1, none⟩ (.int .i64 u.id)
theorem EtOwn.swap {w : World} {B g cap : Nat} {l : List Ev} (h : EtOwn w B (some ⟨g, 0, none⟩) cap l) (i j : Nat) (hi : i < l.length) (hj : j < l.length) {u v : Ev} (hu : l.getD i e0 = u) (hv : l.getD j e0 = v) :
    EtOwn (swapT w g i j u v) B (some ⟨g, 0, none⟩) cap (swapL e0 l i j) := by
  subst hu hv
  exact (h.set i hi _).set j (by simpa using hj) _
theorem Only.swapT (w : World) (g i j : Nat) (u v : Ev) : Only w (swapT w g i j u v) (fun k => k = g) := by
  have s : ∀ (W : World) (o : Nat) (x : Value), Only W (W.setCell ⟨g, o, none⟩ x) (fun k => k = g) := fun W o x => Only.setCell W ⟨g, o, none⟩ x (fun k => k = g) rfl
  exact (((s _ _ _).trans (s _ _ _) (fun _ _ c => c)).trans (s _ _ _) (fun _ _ c => c)).trans (s _ _ _) (fun _ _ c => c)
theorem EtOwn.drewN {w : World} {B cap : Nat} {a : Option Addr} {l : List Ev} (h : EtOwn w B a cap l) (n : Nat) : EtOwn (w.drewN n) B a cap l := h

set_option maxRecDepth 100000 in
set_option maxHeartbeats 4000000 in
theorem swapRange_any (P X M Y Q : List Ev) (g cap B : Nat) (fv : Value) (w : World) (N a b n : Nat) (hN : N = (P ++ (X ++ (M ++ (Y ++ Q)))).length) (ha : a = P.length) (hb : b = P.length + X.length + M.length) (hn : n = X.length) (hn2 : n = Y.length) (h100 : N ≤ 100)
    (hrow : EtOwn w B (some ⟨g, 0, none⟩) cap (P ++ (X ++ (M ++ (Y ++ Q))))) :
    Calls Tryd.prog 63 #[.slice (some ⟨g, 0, none⟩) N cap, .int .i64 a, .int .i64 b, .int .i64 n, fv] w
      fun e w' => e = .returned (.tuple #[]) ∧ EtOwn w' B (some ⟨g, 0, none⟩) cap (P ++ (Y ++ (M ++ (X ++ Q)))) ∧ Only w w' (fun k => k = g) := by
  have HN := Lib.hid hN
  have HA := Lib.hid ha
  have HBb := Lib.hid hb
  have Hn := Lib.hid hn
  have Hn2 := Lib.hid hn2
  have HRow := Lib.hid hrow
  have hbn : b + n ≤ N := by rw [hN, hb, hn]; simp only [List.length_append]; omega
  have han : a + n ≤ b := by rw [hb, ha, hn]; omega
  clear hN ha hb hn hn2 hrow
  go_enter Tryd.func63, Tryd.ntmps63
  go_wp2
  go_loopw [10] (fun iv wr => ∃ (i : Nat) (X1 X2 Y1 Y2 : List Ev), iv = .int .i64 i ∧ i ≤ n ∧ X1.length = i ∧ Y1.length = i ∧ X1 ++ X2 = X ∧ Y1 ++ Y2 = Y ∧ EtOwn wr B (some ⟨g, 0, none⟩) cap (P ++ (Y1 ++ (X2 ++ (M ++ (X1 ++ (Y2 ++ Q)))))) ∧ Only w wr (fun k => k = g))
    (fun iv _ => n - (intOf iv).toNat)
  case atStart => exact ⟨0, [], X, [], Y, rfl, Nat.zero_le _, rfl, rfl, rfl, rfl, by simpa using HRow.out, Only.refl _ _⟩
  case round =>
    obtain ⟨i, X1, X2, Y1, Y2, rfl, hi, hX1, hY1, hX, hY, hR, hO⟩ := hrel
    have HX := Lib.hid hX
    have HY := Lib.hid hY
    have HX1 := Lib.hid hX1
    have HY1 := Lib.hid hY1
    have HO := Lib.hid hO
    have hXl : X1.length + X2.length = n := by rw [Hn.out, ← hX, List.length_append]
    have hYl : Y1.length + Y2.length = n := by rw [Hn2.out, ← hY, List.length_append]
    clear hX hY hO
    rcases Nat.lt_or_ge i n with hlt | hge
    · obtain ⟨x, X3, rfl⟩ : ∃ x X3, X2 = x :: X3 := by cases X2 with | nil => simp at hXl; omega | cons x X3 => exact ⟨x, X3, rfl⟩
      obtain ⟨y, Y3, rfl⟩ : ∃ y Y3, Y2 = y :: Y3 := by cases Y2 with | nil => simp at hYl; omega | cons x X3 => exact ⟨x, X3, rfl⟩
      have eL : P ++ (Y1 ++ (x :: X3 ++ (M ++ (X1 ++ (y :: Y3 ++ Q))))) = (P ++ Y1) ++ x :: ((X3 ++ (M ++ X1)) ++ y :: (Y3 ++ Q)) := by simp
      rw [eL] at hR
      have p1 : a + i = (P ++ Y1).length := by rw [List.length_append, HA.out, hY1]
      have p2 : b + i = (P ++ Y1).length + 1 + (X3 ++ (M ++ X1)).length := by
        simp only [List.length_append, List.length_cons] at hXl ⊢
        have := HBb.out; have := HA.out; have := Hn.out; omega
      have lenL : ((P ++ Y1) ++ x :: ((X3 ++ (M ++ X1)) ++ y :: (Y3 ++ Q))).length = N := by
        rw [HN.out, ← HX.out, ← HY.out]
        simp only [List.length_append, List.length_cons]
        omega
      have gx : ((P ++ Y1) ++ x :: ((X3 ++ (M ++ X1)) ++ y :: (Y3 ++ Q))).getD (a + i) e0 = x := getD_mid e0 _ x _ p1
      have gy : ((P ++ Y1) ++ x :: ((X3 ++ (M ++ X1)) ++ y :: (Y3 ++ Q))).getD (b + i) e0 = y := by
        have := getD_mid e0 ((P ++ Y1) ++ x :: (X3 ++ (M ++ X1))) y (Y3 ++ Q) (i := b + i) (by rw [p2]; simp only [List.length_append, List.length_cons]; omega)
        simpa using this
      have hai : a + i < N := by omega
      have hbi : b + i < N := by omega
      obtain ⟨u0, u1⟩ := hR.cells (a + i) (by rw [lenL]; exact hai) gx
      obtain ⟨v0, v1⟩ := hR.cells (b + i) (by rw [lenL]; exact hbi) gy
      have f0 := hR.free (by rw [lenL]; omega) ((a + i) * 2)
      have f1 := hR.free (by rw [lenL]; omega) ((a + i) * 2 + 1)
      have f2 := hR.free (by rw [lenL]; omega) ((b + i) * 2)
      have f3 := hR.free (by rw [lenL]; omega) ((b + i) * 2 + 1)
      have hS := hR.swap (a + i) (b + i) (by rw [lenL]; exact hai) (by rw [lenL]; exact hbi) gx gy
      rw [swapL_mid e0 _ x _ y _ p1 p2] at hS
      have HS := Lib.hid hS
      clear hS hR eL p1 p2 lenL gx gy
      have ne00a : ¬ (a + i) * 2 = (b + i) * 2 := by omega
      have ne00b : ¬ (b + i) * 2 = (a + i) * 2 := by omega
      have ne01a : ¬ (a + i) * 2 = (b + i) * 2 + 1 := by omega
      have ne01b : ¬ (b + i) * 2 + 1 = (a + i) * 2 := by omega
      have ne10a : ¬ (a + i) * 2 + 1 = (b + i) * 2 := by omega
      have ne10b : ¬ (b + i) * 2 = (a + i) * 2 + 1 := by omega
      have ne11a : ¬ (a + i) * 2 + 1 = (b + i) * 2 + 1 := by omega
      have ne11b : ¬ (b + i) * 2 + 1 = (a + i) * 2 + 1 := by omega
      have hltI : (i : Int) < (n : Int) := by omega
      have i1 : (a : Int) + (i : Int) < (N : Int) := by omega
      have i2 : (b : Int) + (i : Int) < (N : Int) := by omega
      have z1 : (0 : Int) ≤ (a : Int) + (i : Int) := by omega
      have z2 : ((a : Int) + (i : Int)).toNat = a + i := by omega
      have z3 : (0 : Int) ≤ (b : Int) + (i : Int) := by omega
      have z4 : ((b : Int) + (i : Int)).toNat = b + i := by omega
      have Hlt := Lib.hid hlt
      have HX3 := Lib.hid hXl
      have HY3 := Lib.hid hYl
      clear hXl hYl hX1 hY1 hlt
      go_wp2
      go_region
      all_goals
        go_wp2
        go_roundw
        case rel =>
          refine ⟨i + 1, X1 ++ [x], X3, Y1 ++ [y], Y3, by go_num, Hlt.out, by simp [HX1.out], by simp [HY1.out], by rw [← HX.out]; simp, by rw [← HY.out]; simp, ?_, ?_⟩
          · have e : P ++ ((Y1 ++ [y]) ++ (X3 ++ (M ++ ((X1 ++ [x]) ++ (Y3 ++ Q))))) = (P ++ Y1) ++ y :: ((X3 ++ (M ++ X1)) ++ x :: (Y3 ++ Q)) := by simp
            rw [e]
            exact HS.out.drewN 1
          · exact (HO.out.trans (Only.swapT _ g (a + i) (b + i) x y) (fun _ _ c => c)).drewN 1
        case measure => simp only [intOf]; have := Hlt.out; omega
    · obtain rfl : i = n := by omega
      obtain rfl : X2 = [] := List.eq_nil_of_length_eq_zero (by omega)
      obtain rfl : Y2 = [] := List.eq_nil_of_length_eq_zero (by omega)
      have hltB : decide (i < i) = false := by simp
      have HR := Lib.hid hR
      clear hR
      go_wp2
      go_end0
      refine ⟨rfl, ?_, HO.out⟩
      have := HR.out
      rw [← HX.out, ← HY.out]
      simpa using this
end Go.Proofs.YtienepcknafddaaDoor
end

section
set_option linter.unusedVariables false
set_option linter.unusedSimpArgs false
namespace Go.Proofs.YtienepcknafddaaDoor
open Go Go.RowKit SimPlain HeapPlain SymPlain

set_option maxRecDepth 100000 in
set_option maxHeartbeats 4000000 in
theorem rotate_any (P U V Q : List Ev) (g cap B : Nat) (fv : Value) (w : World) (N a m b : Nat) (hN : N = (P ++ (U ++ (V ++ Q))).length) (ha : a = P.length) (hm : m = P.length + U.length) (hb : b = P.length + U.length + V.length) (hU : 0 < U.length) (hV : 0 < V.length) (h100 : N ≤ 100)
    (hrow : EtOwn w B (some ⟨g, 0, none⟩) cap (P ++ (U ++ (V ++ Q)))) :
    Calls Tryd.prog 62 #[.slice (some ⟨g, 0, none⟩) N cap, .int .i64 a, .int .i64 m, .int .i64 b, fv] w
      fun e w' => e = .returned (.tuple #[]) ∧ EtOwn w' B (some ⟨g, 0, none⟩) cap (P ++ (V ++ (U ++ Q))) ∧ Only w w' (fun k => k = g) := by
  have hab : a ≤ m := by omega
  have hbN : b ≤ N := by rw [hN, hb]; simp only [List.length_append]; omega
  have hmb : m ≤ b := by omega
  obtain ⟨i0, hi0⟩ : ∃ i, i = U.length := ⟨_, rfl⟩
  obtain ⟨j0, hj0⟩ : ∃ j, j = V.length := ⟨_, rfl⟩
  have s1 : (m : Int) - (a : Int) = (i0 : Int) := by omega
  have s2 : (b : Int) - (m : Int) = (j0 : Int) := by omega
  have HN := Lib.hid hN
  have HM := Lib.hid hm
  have HU := Lib.hid hU
  have HV := Lib.hid hV
  have HRow := Lib.hid hrow
  have Hi0 := Lib.hid hi0
  have Hj0 := Lib.hid hj0
  have hNe := hN
  simp only [List.length_append] at hNe
  have HNe := Lib.hid hNe
  clear hN hNe ha hm hb hU hV hrow hi0 hj0
  go_enter Tryd.func62, Tryd.ntmps62
  go_wp2
  go_loopw [10, 11] (fun iv jv wr => ∃ (i j : Nat) (X U2 V2 Y : List Ev), iv = .int .i64 i ∧ jv = .int .i64 j ∧ U2.length = i ∧ V2.length = j ∧ 0 < i ∧ 0 < j ∧ P.length + X.length + i = m ∧ X ++ (V2 ++ (U2 ++ Y)) = V ++ U ∧
      EtOwn wr B (some ⟨g, 0, none⟩) cap (P ++ (X ++ (U2 ++ (V2 ++ (Y ++ Q))))) ∧ Only w wr (fun k => k = g))
    (fun iv jv _ => (intOf iv).toNat + (intOf jv).toNat)
  case atStart => exact ⟨i0, j0, [], U, V, [], rfl, rfl, Hi0.out.symm, Hj0.out.symm, by rw [Hi0.out]; exact HU.out, by rw [Hj0.out]; exact HV.out, by rw [HM.out, Hi0.out]; simp, by simp, by simpa using HRow.out, Only.refl _ _⟩
  case round =>
    obtain ⟨i, j, X, U2, V2, Y, rfl, rfl, hU2, hV2, hi, hj, hmi, hXY, hR, hO⟩ := hrel
    have HXY := Lib.hid hXY
    have HR := Lib.hid hR
    have HO := Lib.hid hO
    have hlen : X.length + (j + (i + Y.length)) = V.length + U.length := by have := congrArg List.length hXY; simpa [hU2, hV2] using this
    have hNl : N = P.length + (X.length + (i + (j + (Y.length + Q.length)))) := by rw [HNe.out]; omega
    obtain ⟨p, hp⟩ : ∃ p, p = P.length + X.length := ⟨_, rfl⟩
    have Hp := Lib.hid hp
    have s3 : (m : Int) - (i : Int) = (p : Int) := by omega
    have hpm : p + i = m := by omega
    have HNl := Lib.hid hNl
    have hjN : m + j ≤ N := by omega
    have HU2 := Lib.hid hU2
    have HV2 := Lib.hid hV2
    clear hXY hR hO hlen hmi hp hU2 hV2 hNl
    rcases Nat.lt_trichotomy i j with hij | hij | hij
    · obtain ⟨d, hd⟩ : ∃ d, j = d + i := ⟨j - i, by omega⟩
      obtain ⟨Va, Vb, hVab, hVa⟩ := cut_at V2 d (by rw [HV2.out]; omega)
      subst hVab
      have hVb : Vb.length = i := by have := HV2.out; rw [List.length_append] at this; omega
      obtain ⟨q, hq⟩ : ∃ q, q = m + d := ⟨_, rfl⟩
      have hSW := swapRange_any (P ++ X) U2 Va Vb (Y ++ Q) g cap B fv wr N p q i (by rw [HNl.out]; simp only [List.length_append]; rw [HU2.out, hVb, hVa, hd]; omega) (by rw [Hp.out, List.length_append]) (by rw [hq, List.length_append, HU2.out, hVa, ← Hp.out]; omega) HU2.out.symm hVb.symm h100 (by have := HR.out; simpa using this)
      have HSW := Lib.hid hSW
      have HVa := Lib.hid hVa
      have HVb := Lib.hid hVb
      have Hd := Lib.hid hd
      have hne : ((i : Int) != (j : Int)) = true := by rw [bne_iff_ne]; omega
      have hlt : (i : Int) < (j : Int) := by omega
      have hgt : decide ((j : Int) < (i : Int)) = false := by rw [decide_eq_false_iff_not]; omega
      have s4 : (m : Int) + (j : Int) - (i : Int) = (q : Int) := by omega
      have s5 : (j : Int) - (i : Int) = (d : Int) := by omega
      clear hSW hVa hVb hd hq
      go_wp2_with fail
      refine HSW.out.mono ?_
      rintro e w2 ⟨rfl, hr2, ho2⟩
      have HR2 := Lib.hid hr2
      have HO2 := Lib.hid ho2
      clear hr2 ho2
      go_wp2_with fail
      go_roundw
      case rel =>
        refine ⟨i, d, X, Vb, Va, U2 ++ Y, rfl, by first | rfl | go_num, HVb.out, HVa.out, hi, by omega, by rw [← Hp.out]; exact hpm, by rw [← HXY.out]; simp, by have := HR2.out; simpa using this, HO.out.trans HO2.out (fun _ _ c => c)⟩
      case measure => simp only [intOf]; omega
    · subst hij
      have hSW := swapRange_any (P ++ X) U2 [] V2 (Y ++ Q) g cap B fv wr N p m i (by rw [HNl.out]; simp only [List.length_append, List.length_nil]; rw [HU2.out, HV2.out]; omega) (by rw [Hp.out, List.length_append]) (by rw [List.length_append, HU2.out, ← Hp.out]; simp; omega) HU2.out.symm HV2.out.symm h100 (by have := HR.out; simpa using this)
      have HSW := Lib.hid hSW
      clear hSW
      go_wp2_with fail
      refine HSW.out.mono ?_
      rintro e w2 ⟨rfl, hr2, ho2⟩
      have HR2 := Lib.hid hr2
      have HO2 := Lib.hid ho2
      clear hr2 ho2
      go_wp2_with fail
      go_end0
      refine ⟨rfl, ?_, HO.out.trans HO2.out (fun _ _ c => c)⟩
      have h := HR2.out
      have e1 : P ++ (V ++ (U ++ Q)) = P ++ X ++ (V2 ++ ([] ++ (U2 ++ (Y ++ Q)))) := by
        have := congrArg (fun t => P ++ (t ++ Q)) HXY.out
        simpa using this.symm
      rw [e1]; exact h
    · obtain ⟨d, hd⟩ : ∃ d, i = j + d := ⟨i - j, by omega⟩
      obtain ⟨Ua, Ub, hUab, hUa⟩ := cut_at U2 j (by rw [HU2.out]; omega)
      subst hUab
      have hUb : Ub.length = d := by have := HU2.out; rw [List.length_append] at this; omega
      have hSW := swapRange_any (P ++ X) Ua Ub V2 (Y ++ Q) g cap B fv wr N p m j (by rw [HNl.out]; simp only [List.length_append]; rw [HV2.out, hUa, hUb, hd]; omega) (by rw [Hp.out, List.length_append]) (by rw [List.length_append, hUa, hUb, ← Hp.out]; omega) hUa.symm HV2.out.symm h100 (by have := HR.out; simpa using this)
      have HSW := Lib.hid hSW
      have HUa := Lib.hid hUa
      have HUb := Lib.hid hUb
      have Hd := Lib.hid hd
      have hne : ((i : Int) != (j : Int)) = true := by rw [bne_iff_ne]; omega
      have hlt : (j : Int) < (i : Int) := by omega
      have s5 : (i : Int) - (j : Int) = (d : Int) := by omega
      clear hSW hUa hUb hd
      go_wp2_with fail
      refine HSW.out.mono ?_
      rintro e w2 ⟨rfl, hr2, ho2⟩
      have HR2 := Lib.hid hr2
      have HO2 := Lib.hid ho2
      clear hr2 ho2
      go_wp2_with fail
      go_roundw
      case rel =>
        refine ⟨d, j, X ++ V2, Ub, Ua, Y, by first | rfl | go_num, rfl, HUb.out, HUa.out, by omega, hj, by rw [List.length_append, HV2.out, ← Nat.add_assoc, ← Hp.out]; have := Hd.out; omega, by rw [← HXY.out]; simp, by have := HR2.out; simpa using this, HO.out.trans HO2.out (fun _ _ c => c)⟩
      case measure => simp only [intOf]; omega
end Go.Proofs.YtienepcknafddaaDoor
end

section
set_option linter.unusedVariables false
set_option linter.unusedSimpArgs false
namespace Go.Proofs.YtienepcknafddaaDoor
open Go Go.RowKit SimPlain HeapPlain SymPlain

theorem isNaN_any (x : Int) (w : World) : Calls Tryd.prog 57 #[.int .i64 x] w fun e w' => e = .returned (.bool false) ∧ w = w' := by
  have h : (x != x) = false := by simp
  go_enter Tryd.func57, Tryd.ntmps57
  go_wp2
  go_ret
  exact ⟨rfl, rfl⟩
/-- what cmp.Compare tells -/
def cmpZ (x y : Int) : Int := if x < y then -1 else if y < x then 1 else 0
theorem cmpZ_less {x y : Int} (h : x < y) : cmpZ x y = -1 := by unfold cmpZ; rw [if_pos h]
theorem cmpZ_not {x y : Int} (h : ¬ x < y) : 0 ≤ cmpZ x y := by unfold cmpZ; rw [if_neg h]; split <;> decide
theorem compare_any (x y : Int) (w : World) : Calls Tryd.prog 48 #[.int .i64 x, .int .i64 y] w fun e w' => e = .returned (.int .i64 (cmpZ x y)) ∧ w = w' := by
  rcases Int.lt_trichotomy x y with h | h | h
  · rw [cmpZ_less h]
    go_enter Tryd.func48, Tryd.ntmps48
    go_wp2_with fail
    refine (isNaN_any x w).mono ?_
    rintro e w' ⟨rfl, rfl⟩
    go_wp2_with fail
    refine (isNaN_any y w).mono ?_
    rintro e w' ⟨rfl, rfl⟩
    go_wp2
    go_ret
    exact ⟨rfl, rfl⟩
  · subst h
    rw [show cmpZ x x = 0 by simp [cmpZ]]
    have h1 : decide (x < x) = false := by simp
    go_enter Tryd.func48, Tryd.ntmps48
    go_wp2_with fail
    refine (isNaN_any x w).mono ?_
    rintro e w' ⟨rfl, rfl⟩
    go_wp2_with fail
    refine (isNaN_any x w).mono ?_
    rintro e w' ⟨rfl, rfl⟩
    go_wp2
    go_ret
    exact ⟨rfl, rfl⟩
  · rw [show cmpZ x y = 1 by unfold cmpZ; rw [if_neg (by omega), if_pos h]]
    go_enter Tryd.func48, Tryd.ntmps48
    go_wp2_with fail
    refine (isNaN_any x w).mono ?_
    rintro e w' ⟨rfl, rfl⟩
    go_wp2_with fail
    refine (isNaN_any y w).mono ?_
    rintro e w' ⟨rfl, rfl⟩
    go_wp2
    go_ret
    exact ⟨rfl, rfl⟩
def itV (e : Ev) : Value := .agg #[.int .i64 e.t, .int .i64 e.id]
theorem byKey_any (x y : Ev) (w : World) : Calls Tryd.prog 34 #[itV x, itV y] w fun e w' => e = .returned (.int .i64 (cmpZ x.t y.t)) ∧ Only w w' (fun _ => False) := by
  have hC := fun W => compare_any x.t y.t W
  have HC := Lib.hid hC
  clear hC
  unfold itV
  have o1 : Only w ((w.alloc (.cells #[.int .i64 x.t, .int .i64 x.id] 34)).alloc (.cells #[.int .i64 y.t, .int .i64 y.id] 34)) (fun _ => False) :=
    (Only.alloc _ _ (fun _ => False)).trans (Only.alloc _ _ (fun _ => False)) (fun _ _ c => c)
  have HO := Lib.hid o1
  clear o1
  go_enter Tryd.func34, Tryd.ntmps34
  go_wp2_with fail
  refine (HC.out _).mono ?_
  rintro e w' ⟨rfl, rfl⟩
  go_wp2
  go_ret
  exact ⟨rfl, HO.out⟩
end Go.Proofs.YtienepcknafddaaDoor
end

section
set_option linter.unusedVariables false
set_option linter.unusedSimpArgs false
namespace Go.Proofs.YtienepcknafddaaDoor
open Go Go.RowKit SimPlain HeapPlain SymPlain

/-- who came in first -/
def Bef (a b : Ev) : Prop := a.s < b.s
theorem lt_trans (a b c : Ev) (h : Lt a b) (k : Lt b c) : Lt a c := by unfold Lt at *; omega
theorem lt_of_less {x y : Ev} (h : x.t < y.t) : Lt x y := .inl h
theorem lt_of_not {x y : Ev} (h : ¬ x.t < y.t) (hb : Bef y x) : Lt y x := by unfold Lt; unfold Bef at hb; omega
def fvK : Value := .func (.func 34) #[] #[]
theorem wrap_small {k : Nat} (h : k ≤ 1000) : IntKind.i64.wrap (k : Int) = (k : Int) := IntWalk.i64_in _ (by omega)
set_option maxRecDepth 100000 in
set_option maxHeartbeats 4000000 in
theorem insertion_any (A U Q : List Ev) (g cap B : Nat) (w : World) (N a b : Nat) (hN : N = (A ++ (U ++ Q)).length) (ha : a = A.length) (hb : b = A.length + U.length) (hU : U.Pairwise Bef) (h100 : N ≤ 100) (hgw : g < w.heap.size)
    (hrow : EtOwn w B (some ⟨g, 0, none⟩) cap (A ++ (U ++ Q))) :
    Calls Tryd.prog 55 #[.slice (some ⟨g, 0, none⟩) N cap, .int .i64 a, .int .i64 b, fvK] w
      fun e w' => ∃ W, e = .returned (.tuple #[]) ∧ W.Perm U ∧ W.Pairwise Lt ∧ EtOwn w' B (some ⟨g, 0, none⟩) cap (A ++ (W ++ Q)) ∧ Only w w' (fun k => k = g) := by
  have HN := Lib.hid hN
  have HA := Lib.hid ha
  have HB := Lib.hid hb
  have HU := Lib.hid hU
  have HRow := Lib.hid hrow
  have hbN : b ≤ N := by rw [hN, hb]; simp only [List.length_append]; omega
  have hab : a ≤ b := by omega
  have HC := Lib.hid byKey_any
  clear hN ha hb hU hrow
  unfold fvK
  rcases Nat.lt_or_ge a b with hab1 | hab1
  · obtain ⟨u0, U0, hu0⟩ : ∃ u U', U = u :: U' := by
      cases U with
      | nil => have := HA.out; have := HB.out; simp at this; omega
      | cons u U' => exact ⟨u, U', rfl⟩
    have HU0 := Lib.hid hu0
    clear hu0
    go_enter Tryd.func55, Tryd.ntmps55
    go_wp2
    go_loopw [8] (fun iv wr => ∃ (i : Nat) (U1 U2 W : List Ev), iv = .int .i64 i ∧ i ≤ b ∧ a + U1.length = i ∧ U1 ++ U2 = U ∧ W.Perm U1 ∧ W.Pairwise Lt ∧ EtOwn wr B (some ⟨g, 0, none⟩) cap (A ++ (W ++ (U2 ++ Q))) ∧ Only w wr (fun k => k = g))
      (fun iv _ => b - (intOf iv).toNat)
    case atStart => exact ⟨a + 1, [u0], U0, [u0], by go_num, hab1, rfl, by rw [HU0.out]; rfl, List.Perm.refl _, by simp, by have := HRow.out; rw [HU0.out] at this; simpa using this, Only.refl _ _⟩
    case round =>
      obtain ⟨i, U1, U2, W, rfl, hib, hi, hUU, hp, hs, hR, hO⟩ := hrel
      have HUU := Lib.hid hUU
      have HP := Lib.hid hp
      have HS := Lib.hid hs
      have HR := Lib.hid hR
      have HO := Lib.hid hO
      have HI := Lib.hid hi
      have hUl : U1.length + U2.length = U.length := by rw [← hUU, List.length_append]
      clear hUU hp hs hR hO hi
      rcases Nat.lt_or_ge i b with hlt | hge
      · obtain ⟨x, U3, rfl⟩ : ∃ x U3, U2 = x :: U3 := by
          cases U2 with
          | nil => have := HB.out; have := HA.out; have := HI.out; simp at hUl; omega
          | cons x U3 => exact ⟨x, U3, rfl⟩
        have hltI : (i : Int) < (b : Int) := by omega
        have Hlt := Lib.hid hlt
        have hbef : ∀ y ∈ W, Bef y x := fun y hy => by
          have h1 := HU.out
          rw [← HUU.out] at h1
          exact (List.pairwise_append.1 h1).2.2 y (HP.out.mem_iff.1 hy) x (by simp)
        have HBef := Lib.hid hbef
        have HUl := Lib.hid hUl
        clear hlt hbef hUl
        obtain ⟨w1, hw1⟩ : ∃ w1, w1 = wr := ⟨_, rfl⟩
        go_wp2
        go_loopw [9] (fun jv wx => ∃ (j : Nat) (C D : List Ev), jv = .int .i64 j ∧ j ≤ i ∧ j = a + C.length ∧ C ++ D = W ∧ (∀ y ∈ D, Lt x y) ∧ EtOwn wx B (some ⟨g, 0, none⟩) cap (A ++ (C ++ x :: (D ++ (U3 ++ Q)))) ∧ Only w wx (fun k => k = g))
          (fun jv _ => (intOf jv).toNat)
        case atStart =>
          refine ⟨i, W, [], rfl, Nat.le_refl _, by rw [HP.out.length_eq]; exact HI.out.symm, by simp, by simp, by simpa using HR.out, HO.out⟩
        case round =>
          obtain ⟨j, C, D, rfl, hji, hj, hCD, hD, hR2, hO2⟩ := hrel
          have HCD := Lib.hid hCD
          have HD := Lib.hid hD
          have HO2 := Lib.hid hO2
          have HJ := Lib.hid hj
          have hlenN : (A ++ (C ++ x :: (D ++ (U3 ++ Q)))).length = N := by
            have h1 := HUl.out
            have h2 := HP.out.length_eq
            rw [← hCD] at h2
            rw [HN.out]
            simp only [List.length_append, List.length_cons] at h1 h2 ⊢
            omega
          clear hCD hD hO2
          by_cases hC0 : C = []
          · subst hC0
            have hja : j = a := by simpa using hj
            subst hja
            have HR2 := Lib.hid hR2
            have hdd : decide ((j : Int) < (j : Int)) = false := by simp
            clear hR2 hj hlenN
            go_wp2
            go_quiet (fail)
            go_wp2
            go_roundw
            case rel =>
              have hCD0 : D = W := by simpa using HCD.out
              have hmid := one_right (v := x) (U1 := []) (U2 := D) (R := Lt) (by rw [hCD0]; exact HS.out) (by simp) HD.out
              refine ⟨i + 1, U1 ++ [x], U3, x :: D, by go_num, Hlt.out, by rw [List.length_append, ← Nat.add_assoc, HI.out]; rfl, by rw [← HUU.out]; simp, ?_, hmid.2, ?_, HO2.out.drewN _⟩
              · have h1 := hmid.1
                simp only [List.nil_append] at h1
                rw [hCD0] at h1 ⊢
                exact h1.trans (HP.out.append_right [x])
              · have := HR2.out.drewN nq
                simpa using this
            case measure => simp only [intOf]; have := Hlt.out; omega
          · obtain ⟨C', y, rfl⟩ := split_last C hC0
            obtain ⟨k, hk⟩ : ∃ k, j = k + 1 := ⟨j - 1, by rw [hj]; simp; omega⟩
            subst hk
            have hkC : k = (A ++ C').length := by have h1 := HA.out; rw [List.length_append]; simp at hj; omega
            have eL : A ++ ((C' ++ [y]) ++ x :: (D ++ (U3 ++ Q))) = (A ++ C') ++ y :: x :: (D ++ (U3 ++ Q)) := by simp
            rw [eL] at hR2 hlenN
            have hkN : k + 1 < N := by rw [← hlenN, hkC]; simp only [List.length_append, List.length_cons]; omega
            have gy : ((A ++ C') ++ y :: x :: (D ++ (U3 ++ Q))).getD k e0 = y := getD_mid e0 _ y _ hkC
            have gx : ((A ++ C') ++ y :: x :: (D ++ (U3 ++ Q))).getD (k + 1) e0 = x := by
              have := getD_mid e0 ((A ++ C') ++ [y]) x (D ++ (U3 ++ Q)) (i := k + 1) (by rw [hkC]; simp only [List.length_append, List.length_cons, List.length_nil])
              simpa using this
            obtain ⟨y0, y1⟩ := hR2.cells k (by rw [hlenN]; omega) gy
            obtain ⟨x0, x1⟩ := hR2.cells (k + 1) (by rw [hlenN]; omega) gx
            have HR2 := Lib.hid hR2
            have HG := Lib.hid (And.intro gx gy)
            have HKC := Lib.hid hkC
            have HLN := Lib.hid hlenN
            have hgx := lt_of_block (hR2.block (by rw [hlenN]; omega)).choose_spec
            have hka : (a : Int) < (k : Int) + 1 := by have := HJ.out; simp at this; omega
            have z1 : (0 : Int) ≤ (k : Int) + 1 := by omega
            have z2 : ((k : Int) + 1).toNat = k + 1 := by omega
            have z3 : (k : Int) + 1 - 1 = (k : Int) := by omega
            have z4 : (k : Int) + 1 < (N : Int) := by omega
            have wk : IntKind.i64.wrap (k : Int) = (k : Int) := wrap_small (by omega)
            have z5 : (k : Int) < (N : Int) := by omega
            obtain ⟨z, hz⟩ : ∃ z, z = cmpZ x.t y.t := ⟨_, rfl⟩
            have hCz := byKey_any x y
            unfold itV at hCz
            rw [← hz] at hCz
            have HCz := Lib.hid hCz
            have HKa := Lib.hid hka
            clear hCz hR2 gx gy hkC hlenN eL hj hC0
            by_cases hxy : x.t < y.t
            · rw [cmpZ_less hxy] at hz
              have hz0 : z < 0 := by omega
              have HLt := Lib.hid (lt_of_less hxy)
              clear hz hxy
              go_upto_region 4 with fail
              go_still_tail 14, (by kernel_rfl)
              change wpList _ _ _ _ _ wr.drew
              go_wp2_with fail
              refine (HCz.out _).mono ?_
              rintro e w4 ⟨rfl, o4⟩
              have hR4 := HR2.out.same (w' := w4) fun q hq => o4.block q (HR2.out.lt q hq).2 (fun c => c)
              have HO4 := Lib.hid ((HO2.out.drewN 1).trans o4 (fun _ _ c => c.elim))
              obtain ⟨y0, y1⟩ := hR4.cells k (by rw [HLN.out]; omega) HG.out.2
              obtain ⟨x0, x1⟩ := hR4.cells (k + 1) (by rw [HLN.out]; omega) HG.out.1
              have f0 := hR4.free (by rw [HLN.out]; omega) (k * 2)
              have f1 := hR4.free (by rw [HLN.out]; omega) (k * 2 + 1)
              have f2 := hR4.free (by rw [HLN.out]; omega) ((k + 1) * 2)
              have f3 := hR4.free (by rw [HLN.out]; omega) ((k + 1) * 2 + 1)
              have hS := hR4.swap (k + 1) k (by rw [HLN.out]; omega) (by rw [HLN.out]; omega) HG.out.1 HG.out.2
              rw [swapL_down e0 _ y x _ HKC.out (by rw [HKC.out])] at hS
              have HS4 := Lib.hid hS
              have ne00a : ¬ (k + 1) * 2 = k * 2 := by omega
              have ne00b : ¬ k * 2 = (k + 1) * 2 := by omega
              have ne01a : ¬ (k + 1) * 2 = k * 2 + 1 := by omega
              have ne01b : ¬ k * 2 + 1 = (k + 1) * 2 := by omega
              have ne10a : ¬ (k + 1) * 2 + 1 = k * 2 := by omega
              have ne10b : ¬ k * 2 = (k + 1) * 2 + 1 := by omega
              have ne11a : ¬ (k + 1) * 2 + 1 = k * 2 + 1 := by omega
              have ne11b : ¬ k * 2 + 1 = (k + 1) * 2 + 1 := by omega
              clear o4 hR4 hS
              go_wp2
              go_region
              all_goals
                go_wp2
                go_roundw
                case rel =>
                  refine ⟨k, C', y :: D, by go_num, by omega, by have := HKC.out; rw [List.length_append, ← HA.out] at this; exact this, by rw [← HCD.out]; simp, fun v hv => ?_, ?_, ?_⟩
                  · rcases List.mem_cons.1 hv with e | e
                    · rw [e]; exact HLt.out
                    · exact HD.out v e
                  · have e : A ++ (C' ++ x :: (y :: D ++ (U3 ++ Q))) = (A ++ C') ++ x :: y :: (D ++ (U3 ++ Q)) := by simp
                    rw [e]
                    exact HS4.out.drewN 1
                  · exact (HO4.out.trans (Only.swapT _ g (k + 1) k x y) (fun _ _ c => c)).drewN 1
                case measure => simp only [intOf]; omega
            · have hz0 : 0 ≤ z := by rw [hz]; exact cmpZ_not hxy
              have HLt := Lib.hid (lt_of_not hxy (HBef.out y (by rw [← HCD.out]; simp)))
              clear hz hxy
              go_upto_region 4 with fail
              go_still_tail 14, (by kernel_rfl)
              change wpList _ _ _ _ _ wr.drew
              go_wp2_with fail
              refine (HCz.out _).mono ?_
              rintro e w4 ⟨rfl, o4⟩
              have hR4 := HR2.out.same (w' := w4) fun q hq => o4.block q (HR2.out.lt q hq).2 (fun c => c)
              have HR4 := Lib.hid hR4
              have HO4 := Lib.hid ((HO2.out.drewN 1).trans o4 (fun _ _ c => c.elim))
              clear o4 hR4
              go_wp2
              go_roundw
              case rel =>
                have hmid := one_right (v := x) (U1 := C' ++ [y]) (U2 := D) (R := Lt) (by rw [HCD.out]; exact HS.out) (all_before lt_trans (by have := HS.out; rw [← HCD.out] at this; exact (List.pairwise_append.1 this).1) HLt.out) HD.out
                refine ⟨i + 1, U1 ++ [x], U3, (C' ++ [y]) ++ x :: D, by go_num, Hlt.out, by rw [List.length_append, ← Nat.add_assoc, HI.out]; rfl, by rw [← HUU.out]; simp, ?_, hmid.2, ?_, HO4.out⟩
                · rw [HCD.out] at hmid
                  exact hmid.1.trans (HP.out.append_right [x])
                · have e : A ++ ((C' ++ [y] ++ x :: D) ++ (U3 ++ Q)) = (A ++ C') ++ y :: x :: (D ++ (U3 ++ Q)) := by simp
                  rw [e]
                  exact HR4.out
              case measure => simp only [intOf]; have := Hlt.out; omega
      · obtain rfl : i = b := by omega
        obtain rfl : U2 = [] := by
          cases U2 with
          | nil => rfl
          | cons x U3 => have := HB.out; have := HA.out; have := HI.out; simp at hUl; omega
        have hd : decide (i < i) = false := by simp
        clear hUl
        go_wp2
        go_end0
        refine ⟨W, rfl, ?_, HS.out, by have := HR.out; simpa using this, HO.out⟩
        have := HUU.out
        rw [List.append_nil] at this
        rw [← this]; exact HP.out
  · obtain rfl : U = [] := List.eq_nil_of_length_eq_zero (by have := HB.out; have := HA.out; omega)
    have hd : decide ((a : Int) + 1 < (b : Int)) = false := by rw [decide_eq_false_iff_not]; omega
    go_enter Tryd.func55, Tryd.ntmps55
    go_wp2
    refine wp_loop_rounds 1 ?_
    rw [rounds_succ]
    go_wp2
    go_end0
    exact ⟨[], rfl, List.Perm.refl _, by simp, HRow.out, Only.refl _ _⟩
end Go.Proofs.YtienepcknafddaaDoor
end
