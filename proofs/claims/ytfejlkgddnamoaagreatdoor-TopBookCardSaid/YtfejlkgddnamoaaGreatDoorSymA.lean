/- PLAIN LAW: two sorted stretches merged in place; one placed among many; an exchange (no program in sight). WALKS: slices.swapRangeCmpFunc, rotateCmpFunc of items. WALK: slices.rotateCmpFunc of items. WALKS: cmp.Compare, order.byKey. WALK: slices.insertionSortCmpFunc of items by key. WALK: slices.symMergeCmpFunc of items by key: one on the left. WALK: slices.symMergeCmpFunc of items by key: one on the right. PLAIN LAW: where a merge in place cuts (no program in sight). -/
import Derived.Test.YtfejlkgddnamoaaGreatDoorHeapPlain
import Derived.Test.YtfejlkgddnamoaaGreatDoorBkOne
import Derived.BigRegion
import Derived.BigQuiet
set_option linter.unusedVariables false
set_option linter.unusedSimpArgs false
section
namespace SymPlain
open HeapPlain (swapL)
variable {α : Type} {R : α → α → Prop} (d : α)

theorem getD_mid (A : List α) (x : α) (B : List α) {i : Nat} (h : i = A.length) : (A ++ x :: B).getD i d = x := by
  subst h; rw [List.getD_eq_getElem?_getD, List.getElem?_append_right (Nat.le_refl _)]; simp
theorem swapL_mid (A : List α) (x : α) (C : List α) (y : α) (E : List α) {i j : Nat} (hi : i = A.length) (hj : j = A.length + 1 + C.length) :
    swapL d (A ++ x :: (C ++ y :: E)) i j = A ++ y :: (C ++ x :: E) := by
  have e1 : (A ++ x :: (C ++ y :: E)).getD i d = x := getD_mid d A x _ hi
  have e2 : (A ++ x :: (C ++ y :: E)).getD j d = y := by
    have := getD_mid d (A ++ x :: C) y E (i := j) (by simp; omega)
    simpa using this
  unfold swapL
  rw [e1, e2]
  have s1 : (A ++ x :: (C ++ y :: E)).set i y = A ++ y :: (C ++ y :: E) := by
    rw [List.set_append_right _ _ (by omega), show i - A.length = 0 by omega]; rfl
  rw [s1]
  have s2 : (A ++ y :: (C ++ y :: E)).set j x = A ++ y :: (C ++ x :: E) := by
    rw [List.set_append_right _ _ (by omega), show j - A.length = C.length + 1 by omega, List.set_cons_succ, List.set_append_right _ _ (by omega), show C.length - C.length = 0 by omega]; rfl
  exact s2
theorem swapL_down (A : List α) (x y : α) (E : List α) {i j : Nat} (hj : j = A.length) (hi : i = A.length + 1) : swapL d (A ++ x :: y :: E) i j = A ++ y :: x :: E := by
  have e1 : (A ++ x :: y :: E).getD j d = x := getD_mid d A x _ hj
  have e2 : (A ++ x :: y :: E).getD i d = y := by
    have := getD_mid d (A ++ [x]) y E (i := i) (by simp; omega)
    simpa using this
  unfold swapL
  rw [e1, e2]
  have s1 : (A ++ x :: y :: E).set i x = A ++ x :: x :: E := by
    rw [List.set_append_right _ _ (by omega), show i - A.length = 1 by omega]; rfl
  rw [s1, List.set_append_right _ _ (by omega), show j - A.length = 0 by omega]; rfl
theorem pairwise_mid {A B : List α} {x : α} (h : (A ++ B).Pairwise R) (hA : ∀ y ∈ A, R y x) (hB : ∀ y ∈ B, R x y) : (A ++ x :: B).Pairwise R := by
  rw [List.pairwise_append] at h ⊢
  refine ⟨h.1, List.pairwise_cons.2 ⟨hB, h.2.1⟩, fun a ha b hb => ?_⟩
  rcases List.mem_cons.1 hb with e | e
  · subst e; exact hA a ha
  · exact h.2.2 a ha b e
theorem all_before (T : ∀ a b c, R a b → R b c → R a c) {A : List α} {y x : α} (h : (A ++ [y]).Pairwise R) (hy : R y x) : ∀ z ∈ A ++ [y], R z x := by
  intro z hz
  rcases List.mem_append.1 hz with e | e
  · exact T _ _ _ ((List.pairwise_append.1 h).2.2 z e y (by simp)) hy
  · simp at e; subst e; exact hy
theorem all_behind (T : ∀ a b c, R a b → R b c → R a c) {A : List α} {y x : α} (h : (y :: A).Pairwise R) (hy : R x y) : ∀ z ∈ y :: A, R x z := by
  intro z hz
  rcases List.mem_cons.1 hz with e | e
  · subst e; exact hy
  · exact T _ _ _ hy ((List.pairwise_cons.1 h).1 z e)
theorem split_last (A : List α) (h : A ≠ []) : ∃ A' y, A = A' ++ [y] := ⟨A.dropLast, A.getLast h, (List.dropLast_concat_getLast h).symm⟩
/-- all of the one stand before all of the other, if its last one stands before its first one -/
theorem cross (T : ∀ a b c, R a b → R b c → R a c) {U1 U2 V1 V2 : List α} (hU : (U1 ++ U2).Pairwise R) (hV : (V1 ++ V2).Pairwise R)
    (h : ∀ (C : List α) (x y : α) (D : List α), U1 = C ++ [x] → V2 = y :: D → R x y) : ∀ x ∈ U1, ∀ y ∈ V2, R x y := by
  intro x hx y hy
  obtain ⟨C, x0, rfl⟩ := split_last U1 (fun e => by rw [e] at hx; simp at hx)
  cases V2 with
  | nil => simp at hy
  | cons y0 D =>
    have h0 := h C x0 y0 D rfl rfl
    have h1 := all_before T (List.pairwise_append.1 hU).1 h0 x hx
    exact all_behind T (List.pairwise_append.1 hV).2.1 h1 y hy
theorem merge_join {U1 U2 V1 V2 W1 W2 : List α} (hU : (U1 ++ U2).Pairwise R) (hV : (V1 ++ V2).Pairwise R) (h12 : ∀ x ∈ U1, ∀ y ∈ V2, R x y) (h21 : ∀ x ∈ V1, ∀ y ∈ U2, R x y)
    (p1 : W1.Perm (U1 ++ V1)) (s1 : W1.Pairwise R) (p2 : W2.Perm (U2 ++ V2)) (s2 : W2.Pairwise R) : (W1 ++ W2).Perm ((U1 ++ U2) ++ (V1 ++ V2)) ∧ (W1 ++ W2).Pairwise R := by
  rw [List.pairwise_append] at hU hV
  refine ⟨?_, List.pairwise_append.2 ⟨s1, s2, fun x hx y hy => ?_⟩⟩
  · refine (p1.append p2).trans ?_
    rw [List.append_assoc, List.append_assoc]
    refine List.Perm.append_left U1 ?_
    rw [← List.append_assoc, ← List.append_assoc]
    exact List.Perm.append_right V2 List.perm_append_comm
  · have hx' := p1.mem_iff.1 hx
    have hy' := p2.mem_iff.1 hy
    rcases List.mem_append.1 hx' with a | a <;> rcases List.mem_append.1 hy' with b | b
    · exact hU.2.2 x a y b
    · exact h12 x a y b
    · exact h21 x a y b
    · exact hV.2.2 x a y b
/-- one into many -/
theorem one_left {u : α} {V1 V2 : List α} (hV : (V1 ++ V2).Pairwise R) (h1 : ∀ x ∈ V1, R x u) (h2 : ∀ y ∈ V2, R u y) : (V1 ++ u :: V2).Perm ([u] ++ (V1 ++ V2)) ∧ (V1 ++ u :: V2).Pairwise R :=
  ⟨by simp, pairwise_mid hV h1 h2⟩
theorem one_right {v : α} {U1 U2 : List α} (hU : (U1 ++ U2).Pairwise R) (h1 : ∀ x ∈ U1, R x v) (h2 : ∀ y ∈ U2, R v y) : (U1 ++ v :: U2).Perm ((U1 ++ U2) ++ [v]) ∧ (U1 ++ v :: U2).Pairwise R :=
  ⟨List.perm_middle.trans (List.perm_append_singleton v _).symm, pairwise_mid hU h1 h2⟩
/-- a list cut where one likes -/
theorem cut_at (l : List α) (n : Nat) (h : n ≤ l.length) : ∃ A B, l = A ++ B ∧ A.length = n := ⟨l.take n, l.drop n, (List.take_append_drop n l).symm, by rw [List.length_take]; omega⟩
end SymPlain
end

section
namespace Go.Proofs.YtfejlkgddnamoaaGreatDoor
open Go Go.RowKit SimPlain HeapPlain SymPlain

theorem EtOwn.free {w : World} {B g cap : Nat} {l : List Ev} (h : EtOwn w B (some ⟨g, 0, none⟩) cap l) (h0 : 0 < l.length) (o : Nat) : w.frozen? ⟨g, o, none⟩ = false := by
  rcases h.2 with ⟨h', hz⟩ | ⟨g', cap', cur, h', hb, hg, hc, hm, hs, ht⟩
  · omega
  · simp only [Value.slice.injEq, Option.some.injEq, Addr.mk.injEq, true_and, and_true] at h'
    obtain ⟨rfl, rfl⟩ := h'
    simp [World.frozen?, hg]
theorem EtOwn.cells {w : World} {B g cap : Nat} {l : List Ev} (h : EtOwn w B (some ⟨g, 0, none⟩) cap l) (i : Nat) (hi : i < l.length) {x : Ev} (hx : l.getD i e0 = x) :
    w.cell? ⟨g, i * 2, none⟩ = some (.int .i64 x.t) ∧ w.cell? ⟨g, i * 2 + 1, none⟩ = some (.int .i64 x.id) := by
  subst hx
  obtain ⟨g', e, _, _, hc⟩ := h.open (by omega)
  obtain rfl : g = g' := by simpa using e
  exact hc i hi
theorem EtOwn.block {w : World} {B g cap : Nat} {l : List Ev} (h : EtOwn w B (some ⟨g, 0, none⟩) cap l) (h0 : 0 < l.length) : ∃ cs, w.heap[g]? = some (.cells cs 30 (0, 0)) := by
  rcases h.2 with ⟨h', hz⟩ | ⟨g', cap', cur, h', hb, hg, hc, hm, hs, ht⟩
  · omega
  · simp only [Value.slice.injEq, Option.some.injEq, Addr.mk.injEq, true_and, and_true] at h'
    obtain ⟨rfl, rfl⟩ := h'
    exact ⟨_, hg⟩
/-- an item stored -/
theorem EtOwn.set {w : World} {B g cap : Nat} {l : List Ev} (h : EtOwn w B (some ⟨g, 0, none⟩) cap l) (i : Nat) (hi : i < l.length) (e : Ev) :
    EtOwn ((w.setCell ⟨g, i * 2, none⟩ (.int .i64 e.t)).setCell ⟨g, i * 2 + 1, none⟩ (.int .i64 e.id)) B (some ⟨g, 0, none⟩) cap (l.set i e) := by
  unfold EtOwn
  rw [List.length_set]
  refine ⟨by rw [flat2_length, List.length_set], ?_⟩
  rcases h.2 with ⟨h', hz⟩ | ⟨g', cap', cur, h', hb, hg, hc, hm, hs, ht⟩
  · omega
  · simp only [Value.slice.injEq, Option.some.injEq, Addr.mk.injEq, true_and, and_true] at h'
    obtain ⟨rfl, rfl⟩ := h'
    refine .inr ⟨g, cap, (cur.setIfInBounds (i * 2) (.int .i64 e.t)).setIfInBounds (i * 2 + 1) (.int .i64 e.id), rfl, hb, ?_, hc, hm, by simpa using hs, ?_⟩
    · exact heap_setCell_same _ g _ _ _ _ (heap_setCell_same _ g _ _ _ _ hg)
    · apply List.ext_getElem?
      intro j
      rcases Nat.lt_or_ge j (l.length * 2) with hj | hj
      · have hj' : j / 2 * 2 + j % 2 = j := by omega
        have h3 := flat2_get (l.set i e) (j / 2) (j % 2) (by rw [List.length_set]; omega) (by omega)
        have h4 := flat2_get l (j / 2) (j % 2) (by omega) (by omega)
        rw [hj'] at h3 h4
        rw [h3, List.getElem?_take_of_lt hj, Array.getElem?_toList]
        have h5 : cur[j]? = (flat2 l)[j]? := by rw [← ht, List.getElem?_take_of_lt hj, Array.getElem?_toList]
        rw [getD_set e0 l i (j / 2) e hi]
        have hjs : j < cur.size := by omega
        simp only [Array.getElem?_setIfInBounds, Array.size_setIfInBounds]
        by_cases e1 : j / 2 = i
        · rw [if_pos e1]
          have : j = i * 2 ∨ j = i * 2 + 1 := by omega
          rcases this with h6 | h6
          · rw [if_neg (by omega), if_pos h6.symm, if_pos (by omega), show j % 2 = 0 by omega]; rfl
          · rw [if_pos h6.symm, if_pos (by omega), show j % 2 = 1 by omega]; rfl
        · rw [if_neg e1, if_neg (by omega), if_neg (by omega), h5, h4]
      · rw [List.getElem?_eq_none (by simp; omega), List.getElem?_eq_none (by rw [flat2_length, List.length_set]; exact hj)]
/-- the exchange of two items -/
def swapT (w : World) (g i j : Nat) (u v : Ev) : World :=
  (((w.setCell ⟨g, i * 2, none⟩ (.int .i64 v.t)).setCell ⟨g, i * 2 + 1, none⟩ (.int .i64 v.id)).setCell ⟨g, j * 2, none⟩ (.int .i64 u.t)).setCell ⟨g, j * 2 + 1, none⟩ (.int .i64 u.id)
theorem EtOwn.swap {w : World} {B g cap : Nat} {l : List Ev} (h : EtOwn w B (some ⟨g, 0, none⟩) cap l) (i j : Nat) (hi : i < l.length) (hj : j < l.length) {u v : Ev} (hu : l.getD i e0 = u) (hv : l.getD j e0 = v) :
    EtOwn (swapT w g i j u v) B (some ⟨g, 0, none⟩) cap (swapL e0 l i j) := by
  subst hu hv
  exact (h.set i hi _).set j (by simpa using hj) _
theorem Only.swapT (w : World) (g i j : Nat) (u v : Ev) : Only w (swapT w g i j u v) (fun k => k = g) := by
  have s : ∀ (W : World) (o : Nat) (x : Value), Only W (W.setCell ⟨g, o, none⟩ x) (fun k => k = g) := fun W o x => Only.setCell W ⟨g, o, none⟩ x (fun k => k = g) rfl
  exact (((s _ _ _).trans (s _ _ _) (fun _ _ c => c)).trans (s _ _ _) (fun _ _ c => c)).trans (s _ _ _) (fun _ _ c => c)
theorem EtOwn.drewN {w : World} {B cap : Nat} {a : Option Addr} {l : List Ev} (h : EtOwn w B a cap l) (n : Nat) : EtOwn (w.drewN n) B a cap l := h

set_option maxRecDepth 100000 in
set_option maxHeartbeats 4000000 in
theorem swapRange_any (P X M Y Q : List Ev) (g cap B : Nat) (fv : Value) (w : World) (N a b n : Nat) (hN : N = (P ++ (X ++ (M ++ (Y ++ Q)))).length) (ha : a = P.length) (hb : b = P.length + X.length + M.length) (hn : n = X.length) (hn2 : n = Y.length) (h100 : N ≤ 100)
    (hrow : EtOwn w B (some ⟨g, 0, none⟩) cap (P ++ (X ++ (M ++ (Y ++ Q))))) :
    Calls Tryz.prog 118 #[.slice (some ⟨g, 0, none⟩) N cap, .int .i64 a, .int .i64 b, .int .i64 n, fv] w
      fun e w' => e = .returned (.tuple #[]) ∧ EtOwn w' B (some ⟨g, 0, none⟩) cap (P ++ (Y ++ (M ++ (X ++ Q)))) ∧ Only w w' (fun k => k = g) := by
  have HN := Lib.hid hN
  have HA := Lib.hid ha
  have HBb := Lib.hid hb
  have Hn := Lib.hid hn
  have Hn2 := Lib.hid hn2
  have HRow := Lib.hid hrow
  have hbn : b + n ≤ N := by rw [hN, hb, hn]; simp only [List.length_append]; omega
  have han : a + n ≤ b := by rw [hb, ha, hn]; omega
  clear hN ha hb hn hn2 hrow
  go_enter Tryz.func118, Tryz.ntmps118
  go_wp2
  go_loopw [10] (fun iv wr => ∃ (i : Nat) (X1 X2 Y1 Y2 : List Ev), iv = .int .i64 i ∧ i ≤ n ∧ X1.length = i ∧ Y1.length = i ∧ X1 ++ X2 = X ∧ Y1 ++ Y2 = Y ∧ EtOwn wr B (some ⟨g, 0, none⟩) cap (P ++ (Y1 ++ (X2 ++ (M ++ (X1 ++ (Y2 ++ Q)))))) ∧ Only w wr (fun k => k = g))
    (fun iv _ => n - (intOf iv).toNat)
  case atStart => exact ⟨0, [], X, [], Y, rfl, Nat.zero_le _, rfl, rfl, rfl, rfl, by simpa using HRow.out, Only.refl _ _⟩
  case round =>
    obtain ⟨i, X1, X2, Y1, Y2, rfl, hi, hX1, hY1, hX, hY, hR, hO⟩ := hrel
    have HX := Lib.hid hX
    have HY := Lib.hid hY
    have HX1 := Lib.hid hX1
    have HY1 := Lib.hid hY1
    have HO := Lib.hid hO
    have hXl : X1.length + X2.length = n := by rw [Hn.out, ← hX, List.length_append]
    have hYl : Y1.length + Y2.length = n := by rw [Hn2.out, ← hY, List.length_append]
    clear hX hY hO
    rcases Nat.lt_or_ge i n with hlt | hge
    · obtain ⟨x, X3, rfl⟩ : ∃ x X3, X2 = x :: X3 := by cases X2 with | nil => simp at hXl; omega | cons x X3 => exact ⟨x, X3, rfl⟩
      obtain ⟨y, Y3, rfl⟩ : ∃ y Y3, Y2 = y :: Y3 := by cases Y2 with | nil => simp at hYl; omega | cons x X3 => exact ⟨x, X3, rfl⟩
      have eL : P ++ (Y1 ++ (x :: X3 ++ (M ++ (X1 ++ (y :: Y3 ++ Q))))) = (P ++ Y1) ++ x :: ((X3 ++ (M ++ X1)) ++ y :: (Y3 ++ Q)) := by simp
      rw [eL] at hR
      have p1 : a + i = (P ++ Y1).length := by rw [List.length_append, HA.out, hY1]
      have p2 : b + i = (P ++ Y1).length + 1 + (X3 ++ (M ++ X1)).length := by
        simp only [List.length_append, List.length_cons] at hXl ⊢
        have := HBb.out; have := HA.out; have := Hn.out; omega
      have lenL : ((P ++ Y1) ++ x :: ((X3 ++ (M ++ X1)) ++ y :: (Y3 ++ Q))).length = N := by
        rw [HN.out, ← HX.out, ← HY.out]
        simp only [List.length_append, List.length_cons]
        omega
      have gx : ((P ++ Y1) ++ x :: ((X3 ++ (M ++ X1)) ++ y :: (Y3 ++ Q))).getD (a + i) e0 = x := getD_mid e0 _ x _ p1
      have gy : ((P ++ Y1) ++ x :: ((X3 ++ (M ++ X1)) ++ y :: (Y3 ++ Q))).getD (b + i) e0 = y := by
        have := getD_mid e0 ((P ++ Y1) ++ x :: (X3 ++ (M ++ X1))) y (Y3 ++ Q) (i := b + i) (by rw [p2]; simp only [List.length_append, List.length_cons]; omega)
        simpa using this
      have hai : a + i < N := by omega
      have hbi : b + i < N := by omega
      obtain ⟨u0, u1⟩ := hR.cells (a + i) (by rw [lenL]; exact hai) gx
      obtain ⟨v0, v1⟩ := hR.cells (b + i) (by rw [lenL]; exact hbi) gy
      have f0 := hR.free (by rw [lenL]; omega) ((a + i) * 2)
      have f1 := hR.free (by rw [lenL]; omega) ((a + i) * 2 + 1)
      have f2 := hR.free (by rw [lenL]; omega) ((b + i) * 2)
      have f3 := hR.free (by rw [lenL]; omega) ((b + i) * 2 + 1)
      have hS := hR.swap (a + i) (b + i) (by rw [lenL]; exact hai) (by rw [lenL]; exact hbi) gx gy
      rw [swapL_mid e0 _ x _ y _ p1 p2] at hS
      have HS := Lib.hid hS
      clear hS hR eL p1 p2 lenL gx gy
      have ne00a : ¬ (a + i) * 2 = (b + i) * 2 := by omega
      have ne00b : ¬ (b + i) * 2 = (a + i) * 2 := by omega
      have ne01a : ¬ (a + i) * 2 = (b + i) * 2 + 1 := by omega
      have ne01b : ¬ (b + i) * 2 + 1 = (a + i) * 2 := by omega
      have ne10a : ¬ (a + i) * 2 + 1 = (b + i) * 2 := by omega
      have ne10b : ¬ (b + i) * 2 = (a + i) * 2 + 1 := by omega
      have ne11a : ¬ (a + i) * 2 + 1 = (b + i) * 2 + 1 := by omega
      have ne11b : ¬ (b + i) * 2 + 1 = (a + i) * 2 + 1 := by omega
      have hltI : (i : Int) < (n : Int) := by omega
      have i1 : (a : Int) + (i : Int) < (N : Int) := by omega
      have i2 : (b : Int) + (i : Int) < (N : Int) := by omega
      have z1 : (0 : Int) ≤ (a : Int) + (i : Int) := by omega
      have z2 : ((a : Int) + (i : Int)).toNat = a + i := by omega
      have z3 : (0 : Int) ≤ (b : Int) + (i : Int) := by omega
      have z4 : ((b : Int) + (i : Int)).toNat = b + i := by omega
      have Hlt := Lib.hid hlt
      have HX3 := Lib.hid hXl
      have HY3 := Lib.hid hYl
      clear hXl hYl hX1 hY1 hlt
      go_wp2
      go_region
      all_goals
        go_wp2
        go_roundw
        case rel =>
          refine ⟨i + 1, X1 ++ [x], X3, Y1 ++ [y], Y3, by go_num, Hlt.out, by simp [HX1.out], by simp [HY1.out], by rw [← HX.out]; simp, by rw [← HY.out]; simp, ?_, ?_⟩
          · have e : P ++ ((Y1 ++ [y]) ++ (X3 ++ (M ++ ((X1 ++ [x]) ++ (Y3 ++ Q))))) = (P ++ Y1) ++ y :: ((X3 ++ (M ++ X1)) ++ x :: (Y3 ++ Q)) := by simp
            rw [e]
            exact HS.out.drewN 1
          · exact (HO.out.trans (Only.swapT _ g (a + i) (b + i) x y) (fun _ _ c => c)).drewN 1
        case measure => simp only [intOf]; have := Hlt.out; omega
    · obtain rfl : i = n := by omega
      obtain rfl : X2 = [] := List.eq_nil_of_length_eq_zero (by omega)
      obtain rfl : Y2 = [] := List.eq_nil_of_length_eq_zero (by omega)
      have hltB : decide (i < i) = false := by simp
      have HR := Lib.hid hR
      clear hR
      go_wp2
      go_end0
      refine ⟨rfl, ?_, HO.out⟩
      have := HR.out
      rw [← HX.out, ← HY.out]
      simpa using this
end Go.Proofs.YtfejlkgddnamoaaGreatDoor
end

section
namespace Go.Proofs.YtfejlkgddnamoaaGreatDoor
open Go Go.RowKit SimPlain HeapPlain SymPlain

set_option maxRecDepth 100000 in
set_option maxHeartbeats 4000000 in
theorem rotate_any (P U V Q : List Ev) (g cap B : Nat) (fv : Value) (w : World) (N a m b : Nat) (hN : N = (P ++ (U ++ (V ++ Q))).length) (ha : a = P.length) (hm : m = P.length + U.length) (hb : b = P.length + U.length + V.length) (hU : 0 < U.length) (hV : 0 < V.length) (h100 : N ≤ 100)
    (hrow : EtOwn w B (some ⟨g, 0, none⟩) cap (P ++ (U ++ (V ++ Q)))) :
    Calls Tryz.prog 97 #[.slice (some ⟨g, 0, none⟩) N cap, .int .i64 a, .int .i64 m, .int .i64 b, fv] w
      fun e w' => e = .returned (.tuple #[]) ∧ EtOwn w' B (some ⟨g, 0, none⟩) cap (P ++ (V ++ (U ++ Q))) ∧ Only w w' (fun k => k = g) := by
  have hab : a ≤ m := by omega
  have hbN : b ≤ N := by rw [hN, hb]; simp only [List.length_append]; omega
  have hmb : m ≤ b := by omega
  obtain ⟨i0, hi0⟩ : ∃ i, i = U.length := ⟨_, rfl⟩
  obtain ⟨j0, hj0⟩ : ∃ j, j = V.length := ⟨_, rfl⟩
  have s1 : (m : Int) - (a : Int) = (i0 : Int) := by omega
  have s2 : (b : Int) - (m : Int) = (j0 : Int) := by omega
  have HN := Lib.hid hN
  have HM := Lib.hid hm
  have HU := Lib.hid hU
  have HV := Lib.hid hV
  have HRow := Lib.hid hrow
  have Hi0 := Lib.hid hi0
  have Hj0 := Lib.hid hj0
  have hNe := hN
  simp only [List.length_append] at hNe
  have HNe := Lib.hid hNe
  clear hN hNe ha hm hb hU hV hrow hi0 hj0
  go_enter Tryz.func97, Tryz.ntmps97
  go_wp2
  go_loopw [10, 11] (fun iv jv wr => ∃ (i j : Nat) (X U2 V2 Y : List Ev), iv = .int .i64 i ∧ jv = .int .i64 j ∧ U2.length = i ∧ V2.length = j ∧ 0 < i ∧ 0 < j ∧ P.length + X.length + i = m ∧ X ++ (V2 ++ (U2 ++ Y)) = V ++ U ∧
      EtOwn wr B (some ⟨g, 0, none⟩) cap (P ++ (X ++ (U2 ++ (V2 ++ (Y ++ Q))))) ∧ Only w wr (fun k => k = g))
    (fun iv jv _ => (intOf iv).toNat + (intOf jv).toNat)
  case atStart => exact ⟨i0, j0, [], U, V, [], rfl, rfl, Hi0.out.symm, Hj0.out.symm, by rw [Hi0.out]; exact HU.out, by rw [Hj0.out]; exact HV.out, by rw [HM.out, Hi0.out]; simp, by simp, by simpa using HRow.out, Only.refl _ _⟩
  case round =>
    obtain ⟨i, j, X, U2, V2, Y, rfl, rfl, hU2, hV2, hi, hj, hmi, hXY, hR, hO⟩ := hrel
    have HXY := Lib.hid hXY
    have HR := Lib.hid hR
    have HO := Lib.hid hO
    have hlen : X.length + (j + (i + Y.length)) = V.length + U.length := by have := congrArg List.length hXY; simpa [hU2, hV2] using this
    have hNl : N = P.length + (X.length + (i + (j + (Y.length + Q.length)))) := by rw [HNe.out]; omega
    obtain ⟨p, hp⟩ : ∃ p, p = P.length + X.length := ⟨_, rfl⟩
    have Hp := Lib.hid hp
    have s3 : (m : Int) - (i : Int) = (p : Int) := by omega
    have hpm : p + i = m := by omega
    have HNl := Lib.hid hNl
    have hjN : m + j ≤ N := by omega
    have HU2 := Lib.hid hU2
    have HV2 := Lib.hid hV2
    clear hXY hR hO hlen hmi hp hU2 hV2 hNl
    rcases Nat.lt_trichotomy i j with hij | hij | hij
    · obtain ⟨d, hd⟩ : ∃ d, j = d + i := ⟨j - i, by omega⟩
      obtain ⟨Va, Vb, hVab, hVa⟩ := cut_at V2 d (by rw [HV2.out]; omega)
      subst hVab
      have hVb : Vb.length = i := by have := HV2.out; rw [List.length_append] at this; omega
      obtain ⟨q, hq⟩ : ∃ q, q = m + d := ⟨_, rfl⟩
      have hSW := swapRange_any (P ++ X) U2 Va Vb (Y ++ Q) g cap B fv wr N p q i (by rw [HNl.out]; simp only [List.length_append]; rw [HU2.out, hVb, hVa, hd]; omega) (by rw [Hp.out, List.length_append]) (by rw [hq, List.length_append, HU2.out, hVa, ← Hp.out]; omega) HU2.out.symm hVb.symm h100 (by have := HR.out; simpa using this)
      have HSW := Lib.hid hSW
      have HVa := Lib.hid hVa
      have HVb := Lib.hid hVb
      have Hd := Lib.hid hd
      have hne : ((i : Int) != (j : Int)) = true := by rw [bne_iff_ne]; omega
      have hlt : (i : Int) < (j : Int) := by omega
      have hgt : decide ((j : Int) < (i : Int)) = false := by rw [decide_eq_false_iff_not]; omega
      have s4 : (m : Int) + (j : Int) - (i : Int) = (q : Int) := by omega
      have s5 : (j : Int) - (i : Int) = (d : Int) := by omega
      clear hSW hVa hVb hd hq
      go_wp2_with fail
      refine HSW.out.mono ?_
      rintro e w2 ⟨rfl, hr2, ho2⟩
      have HR2 := Lib.hid hr2
      have HO2 := Lib.hid ho2
      clear hr2 ho2
      go_wp2_with fail
      go_roundw
      case rel =>
        refine ⟨i, d, X, Vb, Va, U2 ++ Y, rfl, by first | rfl | go_num, HVb.out, HVa.out, hi, by omega, by rw [← Hp.out]; exact hpm, by rw [← HXY.out]; simp, by have := HR2.out; simpa using this, HO.out.trans HO2.out (fun _ _ c => c)⟩
      case measure => simp only [intOf]; omega
    · subst hij
      have hSW := swapRange_any (P ++ X) U2 [] V2 (Y ++ Q) g cap B fv wr N p m i (by rw [HNl.out]; simp only [List.length_append, List.length_nil]; rw [HU2.out, HV2.out]; omega) (by rw [Hp.out, List.length_append]) (by rw [List.length_append, HU2.out, ← Hp.out]; simp; omega) HU2.out.symm HV2.out.symm h100 (by have := HR.out; simpa using this)
      have HSW := Lib.hid hSW
      clear hSW
      go_wp2_with fail
      refine HSW.out.mono ?_
      rintro e w2 ⟨rfl, hr2, ho2⟩
      have HR2 := Lib.hid hr2
      have HO2 := Lib.hid ho2
      clear hr2 ho2
      go_wp2_with fail
      go_end0
      refine ⟨rfl, ?_, HO.out.trans HO2.out (fun _ _ c => c)⟩
      have h := HR2.out
      have e1 : P ++ (V ++ (U ++ Q)) = P ++ X ++ (V2 ++ ([] ++ (U2 ++ (Y ++ Q)))) := by
        have := congrArg (fun t => P ++ (t ++ Q)) HXY.out
        simpa using this.symm
      rw [e1]; exact h
    · obtain ⟨d, hd⟩ : ∃ d, i = j + d := ⟨i - j, by omega⟩
      obtain ⟨Ua, Ub, hUab, hUa⟩ := cut_at U2 j (by rw [HU2.out]; omega)
      subst hUab
      have hUb : Ub.length = d := by have := HU2.out; rw [List.length_append] at this; omega
      have hSW := swapRange_any (P ++ X) Ua Ub V2 (Y ++ Q) g cap B fv wr N p m j (by rw [HNl.out]; simp only [List.length_append]; rw [HV2.out, hUa, hUb, hd]; omega) (by rw [Hp.out, List.length_append]) (by rw [List.length_append, hUa, hUb, ← Hp.out]; omega) hUa.symm HV2.out.symm h100 (by have := HR.out; simpa using this)
      have HSW := Lib.hid hSW
      have HUa := Lib.hid hUa
      have HUb := Lib.hid hUb
      have Hd := Lib.hid hd
      have hne : ((i : Int) != (j : Int)) = true := by rw [bne_iff_ne]; omega
      have hlt : (j : Int) < (i : Int) := by omega
      have s5 : (i : Int) - (j : Int) = (d : Int) := by omega
      clear hSW hUa hUb hd
      go_wp2_with fail
      refine HSW.out.mono ?_
      rintro e w2 ⟨rfl, hr2, ho2⟩
      have HR2 := Lib.hid hr2
      have HO2 := Lib.hid ho2
      clear hr2 ho2
      go_wp2_with fail
      go_roundw
      case rel =>
        refine ⟨d, j, X ++ V2, Ub, Ua, Y, by first | rfl | go_num, rfl, HUb.out, HUa.out, by omega, hj, by rw [List.length_append, HV2.out, ← Nat.add_assoc, ← Hp.out]; have := Hd.out; omega, by rw [← HXY.out]; simp, by have := HR2.out; simpa using this, HO.out.trans HO2.out (fun _ _ c => c)⟩
      case measure => simp only [intOf]; omega
end Go.Proofs.YtfejlkgddnamoaaGreatDoor
end

section
namespace Go.Proofs.YtfejlkgddnamoaaGreatDoor
open Go Go.RowKit SimPlain HeapPlain SymPlain

theorem isNaN_any (x : Int) (w : World) : Calls Tryz.prog 71 #[.int .i64 x] w fun e w' => e = .returned (.bool false) ∧ w = w' := by
  have h : (x != x) = false := by simp
  go_enter Tryz.func71, Tryz.ntmps71
  go_wp2
  go_ret
  exact ⟨rfl, rfl⟩
/-- what cmp.Compare tells -/
def cmpZ (x y : Int) : Int := if x < y then -1 else if y < x then 1 else 0
theorem cmpZ_less {x y : Int} (h : x < y) : cmpZ x y = -1 := by unfold cmpZ; rw [if_pos h]
theorem cmpZ_not {x y : Int} (h : ¬ x < y) : 0 ≤ cmpZ x y := by unfold cmpZ; rw [if_neg h]; split <;> decide
theorem compare_any (x y : Int) (w : World) : Calls Tryz.prog 49 #[.int .i64 x, .int .i64 y] w fun e w' => e = .returned (.int .i64 (cmpZ x y)) ∧ w = w' := by
  rcases Int.lt_trichotomy x y with h | h | h
  · rw [cmpZ_less h]
    go_enter Tryz.func49, Tryz.ntmps49
    go_wp2_with fail
    refine (isNaN_any x w).mono ?_
    rintro e w' ⟨rfl, rfl⟩
    go_wp2_with fail
    refine (isNaN_any y w).mono ?_
    rintro e w' ⟨rfl, rfl⟩
    go_wp2
    go_ret
    exact ⟨rfl, rfl⟩
  · subst h
    rw [show cmpZ x x = 0 by simp [cmpZ]]
    have h1 : decide (x < x) = false := by simp
    go_enter Tryz.func49, Tryz.ntmps49
    go_wp2_with fail
    refine (isNaN_any x w).mono ?_
    rintro e w' ⟨rfl, rfl⟩
    go_wp2_with fail
    refine (isNaN_any x w).mono ?_
    rintro e w' ⟨rfl, rfl⟩
    go_wp2
    go_ret
    exact ⟨rfl, rfl⟩
  · rw [show cmpZ x y = 1 by unfold cmpZ; rw [if_neg (by omega), if_pos h]]
    go_enter Tryz.func49, Tryz.ntmps49
    go_wp2_with fail
    refine (isNaN_any x w).mono ?_
    rintro e w' ⟨rfl, rfl⟩
    go_wp2_with fail
    refine (isNaN_any y w).mono ?_
    rintro e w' ⟨rfl, rfl⟩
    go_wp2
    go_ret
    exact ⟨rfl, rfl⟩
def itV (e : Ev) : Value := .agg #[.int .i64 e.t, .int .i64 e.id]
theorem byKey_any (x y : Ev) (w : World) : Calls Tryz.prog 31 #[itV x, itV y] w fun e w' => e = .returned (.int .i64 (cmpZ x.t y.t)) ∧ Only w w' (fun _ => False) := by
  have hC := fun W => compare_any x.t y.t W
  have HC := Lib.hid hC
  clear hC
  unfold itV
  have o1 : Only w ((w.alloc (.cells #[.int .i64 x.t, .int .i64 x.id] 30)).alloc (.cells #[.int .i64 y.t, .int .i64 y.id] 30)) (fun _ => False) :=
    (Only.alloc _ _ (fun _ => False)).trans (Only.alloc _ _ (fun _ => False)) (fun _ _ c => c)
  have HO := Lib.hid o1
  clear o1
  go_enter Tryz.func31, Tryz.ntmps31
  go_wp2_with fail
  refine (HC.out _).mono ?_
  rintro e w' ⟨rfl, rfl⟩
  go_wp2
  go_ret
  exact ⟨rfl, HO.out⟩
end Go.Proofs.YtfejlkgddnamoaaGreatDoor
end

section
namespace Go.Proofs.YtfejlkgddnamoaaGreatDoor
open Go Go.RowKit SimPlain HeapPlain SymPlain

/-- who came in first -/
def Bef (a b : Ev) : Prop := a.s < b.s
theorem lt_trans (a b c : Ev) (h : Lt a b) (k : Lt b c) : Lt a c := by unfold Lt at *; omega
theorem lt_of_less {x y : Ev} (h : x.t < y.t) : Lt x y := .inl h
theorem lt_of_not {x y : Ev} (h : ¬ x.t < y.t) (hb : Bef y x) : Lt y x := by unfold Lt; unfold Bef at hb; omega
def fvK : Value := .func (.func 31) #[] #[]
theorem wrap_small {k : Nat} (h : k ≤ 1000) : IntKind.i64.wrap (k : Int) = (k : Int) := IntWalk.i64_in _ (by omega)
set_option maxRecDepth 100000 in
set_option maxHeartbeats 4000000 in
theorem insertion_any (A U Q : List Ev) (g cap B : Nat) (w : World) (N a b : Nat) (hN : N = (A ++ (U ++ Q)).length) (ha : a = A.length) (hb : b = A.length + U.length) (hU : U.Pairwise Bef) (h100 : N ≤ 100) (hgw : g < w.heap.size)
    (hrow : EtOwn w B (some ⟨g, 0, none⟩) cap (A ++ (U ++ Q))) :
    Calls Tryz.prog 69 #[.slice (some ⟨g, 0, none⟩) N cap, .int .i64 a, .int .i64 b, fvK] w
      fun e w' => ∃ W, e = .returned (.tuple #[]) ∧ W.Perm U ∧ W.Pairwise Lt ∧ EtOwn w' B (some ⟨g, 0, none⟩) cap (A ++ (W ++ Q)) ∧ Only w w' (fun k => k = g) := by
  have HN := Lib.hid hN
  have HA := Lib.hid ha
  have HB := Lib.hid hb
  have HU := Lib.hid hU
  have HRow := Lib.hid hrow
  have hbN : b ≤ N := by rw [hN, hb]; simp only [List.length_append]; omega
  have hab : a ≤ b := by omega
  have HC := Lib.hid byKey_any
  clear hN ha hb hU hrow
  unfold fvK
  rcases Nat.lt_or_ge a b with hab1 | hab1
  · obtain ⟨u0, U0, hu0⟩ : ∃ u U', U = u :: U' := by
      cases U with
      | nil => have := HA.out; have := HB.out; simp at this; omega
      | cons u U' => exact ⟨u, U', rfl⟩
    have HU0 := Lib.hid hu0
    clear hu0
    go_enter Tryz.func69, Tryz.ntmps69
    go_wp2
    go_loopw [8] (fun iv wr => ∃ (i : Nat) (U1 U2 W : List Ev), iv = .int .i64 i ∧ i ≤ b ∧ a + U1.length = i ∧ U1 ++ U2 = U ∧ W.Perm U1 ∧ W.Pairwise Lt ∧ EtOwn wr B (some ⟨g, 0, none⟩) cap (A ++ (W ++ (U2 ++ Q))) ∧ Only w wr (fun k => k = g))
      (fun iv _ => b - (intOf iv).toNat)
    case atStart => exact ⟨a + 1, [u0], U0, [u0], by go_num, hab1, rfl, by rw [HU0.out]; rfl, List.Perm.refl _, by simp, by have := HRow.out; rw [HU0.out] at this; simpa using this, Only.refl _ _⟩
    case round =>
      obtain ⟨i, U1, U2, W, rfl, hib, hi, hUU, hp, hs, hR, hO⟩ := hrel
      have HUU := Lib.hid hUU
      have HP := Lib.hid hp
      have HS := Lib.hid hs
      have HR := Lib.hid hR
      have HO := Lib.hid hO
      have HI := Lib.hid hi
      have hUl : U1.length + U2.length = U.length := by rw [← hUU, List.length_append]
      clear hUU hp hs hR hO hi
      rcases Nat.lt_or_ge i b with hlt | hge
      · obtain ⟨x, U3, rfl⟩ : ∃ x U3, U2 = x :: U3 := by
          cases U2 with
          | nil => have := HB.out; have := HA.out; have := HI.out; simp at hUl; omega
          | cons x U3 => exact ⟨x, U3, rfl⟩
        have hltI : (i : Int) < (b : Int) := by omega
        have Hlt := Lib.hid hlt
        have hbef : ∀ y ∈ W, Bef y x := fun y hy => by
          have h1 := HU.out
          rw [← HUU.out] at h1
          exact (List.pairwise_append.1 h1).2.2 y (HP.out.mem_iff.1 hy) x (by simp)
        have HBef := Lib.hid hbef
        have HUl := Lib.hid hUl
        clear hlt hbef hUl
        obtain ⟨w1, hw1⟩ : ∃ w1, w1 = wr := ⟨_, rfl⟩
        go_wp2
        go_loopw [9] (fun jv wx => ∃ (j : Nat) (C D : List Ev), jv = .int .i64 j ∧ j ≤ i ∧ j = a + C.length ∧ C ++ D = W ∧ (∀ y ∈ D, Lt x y) ∧ EtOwn wx B (some ⟨g, 0, none⟩) cap (A ++ (C ++ x :: (D ++ (U3 ++ Q)))) ∧ Only w wx (fun k => k = g))
          (fun jv _ => (intOf jv).toNat)
        case atStart =>
          refine ⟨i, W, [], rfl, Nat.le_refl _, by rw [HP.out.length_eq]; exact HI.out.symm, by simp, by simp, by simpa using HR.out, HO.out⟩
        case round =>
          obtain ⟨j, C, D, rfl, hji, hj, hCD, hD, hR2, hO2⟩ := hrel
          have HCD := Lib.hid hCD
          have HD := Lib.hid hD
          have HO2 := Lib.hid hO2
          have HJ := Lib.hid hj
          have hlenN : (A ++ (C ++ x :: (D ++ (U3 ++ Q)))).length = N := by
            have h1 := HUl.out
            have h2 := HP.out.length_eq
            rw [← hCD] at h2
            rw [HN.out]
            simp only [List.length_append, List.length_cons] at h1 h2 ⊢
            omega
          clear hCD hD hO2
          by_cases hC0 : C = []
          · subst hC0
            have hja : j = a := by simpa using hj
            subst hja
            have HR2 := Lib.hid hR2
            have hdd : decide ((j : Int) < (j : Int)) = false := by simp
            clear hR2 hj hlenN
            go_wp2
            go_quiet (fail)
            go_wp2
            go_roundw
            case rel =>
              have hCD0 : D = W := by simpa using HCD.out
              have hmid := one_right (v := x) (U1 := []) (U2 := D) (R := Lt) (by rw [hCD0]; exact HS.out) (by simp) HD.out
              refine ⟨i + 1, U1 ++ [x], U3, x :: D, by go_num, Hlt.out, by rw [List.length_append, ← Nat.add_assoc, HI.out]; rfl, by rw [← HUU.out]; simp, ?_, hmid.2, ?_, HO2.out.drewN _⟩
              · have h1 := hmid.1
                simp only [List.nil_append] at h1
                rw [hCD0] at h1 ⊢
                exact h1.trans (HP.out.append_right [x])
              · have := HR2.out.drewN nq
                simpa using this
            case measure => simp only [intOf]; have := Hlt.out; omega
          · obtain ⟨C', y, rfl⟩ := split_last C hC0
            obtain ⟨k, hk⟩ : ∃ k, j = k + 1 := ⟨j - 1, by rw [hj]; simp; omega⟩
            subst hk
            have hkC : k = (A ++ C').length := by have h1 := HA.out; rw [List.length_append]; simp at hj; omega
            have eL : A ++ ((C' ++ [y]) ++ x :: (D ++ (U3 ++ Q))) = (A ++ C') ++ y :: x :: (D ++ (U3 ++ Q)) := by simp
            rw [eL] at hR2 hlenN
            have hkN : k + 1 < N := by rw [← hlenN, hkC]; simp only [List.length_append, List.length_cons]; omega
            have gy : ((A ++ C') ++ y :: x :: (D ++ (U3 ++ Q))).getD k e0 = y := getD_mid e0 _ y _ hkC
            have gx : ((A ++ C') ++ y :: x :: (D ++ (U3 ++ Q))).getD (k + 1) e0 = x := by
              have := getD_mid e0 ((A ++ C') ++ [y]) x (D ++ (U3 ++ Q)) (i := k + 1) (by rw [hkC]; simp only [List.length_append, List.length_cons, List.length_nil])
              simpa using this
            obtain ⟨y0, y1⟩ := hR2.cells k (by rw [hlenN]; omega) gy
            obtain ⟨x0, x1⟩ := hR2.cells (k + 1) (by rw [hlenN]; omega) gx
            have HR2 := Lib.hid hR2
            have HG := Lib.hid (And.intro gx gy)
            have HKC := Lib.hid hkC
            have HLN := Lib.hid hlenN
            have hgx := lt_of_block (hR2.block (by rw [hlenN]; omega)).choose_spec
            have hka : (a : Int) < (k : Int) + 1 := by have := HJ.out; simp at this; omega
            have z1 : (0 : Int) ≤ (k : Int) + 1 := by omega
            have z2 : ((k : Int) + 1).toNat = k + 1 := by omega
            have z3 : (k : Int) + 1 - 1 = (k : Int) := by omega
            have z4 : (k : Int) + 1 < (N : Int) := by omega
            have wk : IntKind.i64.wrap (k : Int) = (k : Int) := wrap_small (by omega)
            have z5 : (k : Int) < (N : Int) := by omega
            obtain ⟨z, hz⟩ : ∃ z, z = cmpZ x.t y.t := ⟨_, rfl⟩
            have hCz := byKey_any x y
            unfold itV at hCz
            rw [← hz] at hCz
            have HCz := Lib.hid hCz
            have HKa := Lib.hid hka
            clear hCz hR2 gx gy hkC hlenN eL hj hC0
            by_cases hxy : x.t < y.t
            · rw [cmpZ_less hxy] at hz
              have hz0 : z < 0 := by omega
              have HLt := Lib.hid (lt_of_less hxy)
              clear hz hxy
              go_upto_region 4 with fail
              go_still_tail 14, (by kernel_rfl)
              change wpList _ _ _ _ _ wr.drew
              go_wp2_with fail
              refine (HCz.out _).mono ?_
              rintro e w4 ⟨rfl, o4⟩
              have hR4 := HR2.out.same (w' := w4) fun q hq => o4.block q (HR2.out.lt q hq).2 (fun c => c)
              have HO4 := Lib.hid ((HO2.out.drewN 1).trans o4 (fun _ _ c => c.elim))
              obtain ⟨y0, y1⟩ := hR4.cells k (by rw [HLN.out]; omega) HG.out.2
              obtain ⟨x0, x1⟩ := hR4.cells (k + 1) (by rw [HLN.out]; omega) HG.out.1
              have f0 := hR4.free (by rw [HLN.out]; omega) (k * 2)
              have f1 := hR4.free (by rw [HLN.out]; omega) (k * 2 + 1)
              have f2 := hR4.free (by rw [HLN.out]; omega) ((k + 1) * 2)
              have f3 := hR4.free (by rw [HLN.out]; omega) ((k + 1) * 2 + 1)
              have hS := hR4.swap (k + 1) k (by rw [HLN.out]; omega) (by rw [HLN.out]; omega) HG.out.1 HG.out.2
              rw [swapL_down e0 _ y x _ HKC.out (by rw [HKC.out])] at hS
              have HS4 := Lib.hid hS
              have ne00a : ¬ (k + 1) * 2 = k * 2 := by omega
              have ne00b : ¬ k * 2 = (k + 1) * 2 := by omega
              have ne01a : ¬ (k + 1) * 2 = k * 2 + 1 := by omega
              have ne01b : ¬ k * 2 + 1 = (k + 1) * 2 := by omega
              have ne10a : ¬ (k + 1) * 2 + 1 = k * 2 := by omega
              have ne10b : ¬ k * 2 = (k + 1) * 2 + 1 := by omega
              have ne11a : ¬ (k + 1) * 2 + 1 = k * 2 + 1 := by omega
              have ne11b : ¬ k * 2 + 1 = (k + 1) * 2 + 1 := by omega
              clear o4 hR4 hS
              go_wp2
              go_region
              all_goals
                go_wp2
                go_roundw
                case rel =>
                  refine ⟨k, C', y :: D, by go_num, by omega, by have := HKC.out; rw [List.length_append, ← HA.out] at this; exact this, by rw [← HCD.out]; simp, fun v hv => ?_, ?_, ?_⟩
                  · rcases List.mem_cons.1 hv with e | e
                    · rw [e]; exact HLt.out
                    · exact HD.out v e
                  · have e : A ++ (C' ++ x :: (y :: D ++ (U3 ++ Q))) = (A ++ C') ++ x :: y :: (D ++ (U3 ++ Q)) := by simp
                    rw [e]
                    exact HS4.out.drewN 1
                  · exact (HO4.out.trans (Only.swapT _ g (k + 1) k x y) (fun _ _ c => c)).drewN 1
                case measure => simp only [intOf]; omega
            · have hz0 : 0 ≤ z := by rw [hz]; exact cmpZ_not hxy
              have HLt := Lib.hid (lt_of_not hxy (HBef.out y (by rw [← HCD.out]; simp)))
              clear hz hxy
              go_upto_region 4 with fail
              go_still_tail 14, (by kernel_rfl)
              change wpList _ _ _ _ _ wr.drew
              go_wp2_with fail
              refine (HCz.out _).mono ?_
              rintro e w4 ⟨rfl, o4⟩
              have hR4 := HR2.out.same (w' := w4) fun q hq => o4.block q (HR2.out.lt q hq).2 (fun c => c)
              have HR4 := Lib.hid hR4
              have HO4 := Lib.hid ((HO2.out.drewN 1).trans o4 (fun _ _ c => c.elim))
              clear o4 hR4
              go_wp2
              go_roundw
              case rel =>
                have hmid := one_right (v := x) (U1 := C' ++ [y]) (U2 := D) (R := Lt) (by rw [HCD.out]; exact HS.out) (all_before lt_trans (by have := HS.out; rw [← HCD.out] at this; exact (List.pairwise_append.1 this).1) HLt.out) HD.out
                refine ⟨i + 1, U1 ++ [x], U3, (C' ++ [y]) ++ x :: D, by go_num, Hlt.out, by rw [List.length_append, ← Nat.add_assoc, HI.out]; rfl, by rw [← HUU.out]; simp, ?_, hmid.2, ?_, HO4.out⟩
                · rw [HCD.out] at hmid
                  exact hmid.1.trans (HP.out.append_right [x])
                · have e : A ++ ((C' ++ [y] ++ x :: D) ++ (U3 ++ Q)) = (A ++ C') ++ y :: x :: (D ++ (U3 ++ Q)) := by simp
                  rw [e]
                  exact HR4.out
              case measure => simp only [intOf]; have := Hlt.out; omega
      · obtain rfl : i = b := by omega
        obtain rfl : U2 = [] := by
          cases U2 with
          | nil => rfl
          | cons x U3 => have := HB.out; have := HA.out; have := HI.out; simp at hUl; omega
        have hd : decide (i < i) = false := by simp
        clear hUl
        go_wp2
        go_end0
        refine ⟨W, rfl, ?_, HS.out, by have := HR.out; simpa using this, HO.out⟩
        have := HUU.out
        rw [List.append_nil] at this
        rw [← this]; exact HP.out
  · obtain rfl : U = [] := List.eq_nil_of_length_eq_zero (by have := HB.out; have := HA.out; omega)
    have hd : decide ((a : Int) + 1 < (b : Int)) = false := by rw [decide_eq_false_iff_not]; omega
    go_enter Tryz.func69, Tryz.ntmps69
    go_wp2
    refine wp_loop_rounds 1 ?_
    rw [rounds_succ]
    go_wp2
    go_end0
    exact ⟨[], rfl, List.Perm.refl _, by simp, HRow.out, Only.refl _ _⟩
end Go.Proofs.YtfejlkgddnamoaaGreatDoor
end

section
namespace Go.Proofs.YtfejlkgddnamoaaGreatDoor
open Go Go.RowKit SimPlain HeapPlain SymPlain

/-- what a merge leaves -/
def SymRes (A U V Q : List Ev) (g cap B : Nat) (w : World) (e : Ending) (w' : World) : Prop :=
  ∃ W, e = .returned (.tuple #[]) ∧ W.Perm (U ++ V) ∧ W.Pairwise Lt ∧ EtOwn w' B (some ⟨g, 0, none⟩) cap (A ++ (W ++ Q)) ∧ Only w w' (fun k => k = g)
set_option maxRecDepth 100000 in
set_option maxHeartbeats 4000000 in
theorem sym_left (A : List Ev) (u : Ev) (V Q : List Ev) (g cap B : Nat) (w : World) (N a m b : Nat) (hN : N = (A ++ ([u] ++ (V ++ Q))).length) (ha : a = A.length) (hm : m = a + 1) (hb : b = m + V.length) (hV : V.Pairwise Lt) (hUV : ∀ y ∈ V, Bef u y) (h100 : N ≤ 100)
    (hrow : EtOwn w B (some ⟨g, 0, none⟩) cap (A ++ ([u] ++ (V ++ Q)))) :
    Calls Tryz.prog 70 #[.slice (some ⟨g, 0, none⟩) N cap, .int .i64 a, .int .i64 m, .int .i64 b, fvK] w
      fun e w' => SymRes A [u] V Q g cap B w e w' := by
  have HN := Lib.hid hN
  have HA := Lib.hid ha
  have HB := Lib.hid hb
  have HV := Lib.hid hV
  have HUV := Lib.hid hUV
  have HRow := Lib.hid hrow
  have hbN : b ≤ N := by rw [hN, hb, hm, ha]; simp only [List.length_append, List.length_cons, List.length_nil]; omega
  have hmb : m ≤ b := by omega
  have hma : (m : Int) - (a : Int) = 1 := by omega
  have hgw := lt_of_block (hrow.block (by rw [← hN]; omega)).choose_spec
  have lenN : (A ++ u :: (V ++ Q)).length = N := by rw [hN]; rfl
  have HLN := Lib.hid lenN
  have Hm := Lib.hid hm
  have HZ := Lib.hid byKey_any
  clear hN ha hb hV hUV hrow hm lenN
  unfold fvK
  go_enter Tryz.func70, Tryz.ntmps70
  go_wp2
  go_loopw [10, 11] (fun iv jv wr => ∃ (i j : Nat) (V1 V2 V3 : List Ev), iv = .int .i64 i ∧ jv = .int .i64 j ∧ i = m + V1.length ∧ j = i + V2.length ∧ V1 ++ (V2 ++ V3) = V ∧ (∀ C y, V1 = C ++ [y] → y.t < u.t) ∧ (∀ y D, V3 = y :: D → u.t ≤ y.t) ∧
      EtOwn wr B (some ⟨g, 0, none⟩) cap (A ++ u :: (V ++ Q)) ∧ Only w wr (fun k => k = g))
    (fun iv jv _ => (intOf jv).toNat - (intOf iv).toNat)
  case atStart => exact ⟨m, b, [], V, [], rfl, rfl, rfl, HB.out, by simp, fun C y h => by simp at h, fun y D h => by simp at h, HRow.out, Only.refl _ _⟩
  case round =>
    obtain ⟨i, j, V1, V2, V3, rfl, rfl, hi, hj, hVV, hV1, hV3, hR, hO⟩ := hrel
    have hlen : V1.length + (V2.length + V3.length) = V.length := by rw [← hVV, List.length_append, List.length_append]
    have HI := Lib.hid hi
    have HJ := Lib.hid hj
    have HVV := Lib.hid hVV
    have HV1 := Lib.hid hV1
    have HV3 := Lib.hid hV3
    have HR := Lib.hid hR
    have HO := Lib.hid hO
    have HL := Lib.hid hlen
    have hjb : j ≤ b := by have := HB.out; omega
    have hmi : m ≤ i := by omega
    clear hVV hV1 hV3 hR hO hlen
    rcases Nat.eq_zero_or_pos V2.length with h2 | h2
    · obtain rfl : V2 = [] := List.eq_nil_of_length_eq_zero h2
      obtain rfl : j = i := by simpa using hj
      have hd : decide ((j : Int) < (j : Int)) = false := by simp
      have hV3l : V1.length + V3.length = V.length := by have := HL.out; simpa using this
      have hsub : (j : Int) - 1 = ((a + V1.length : Nat) : Int) := by have := Hm.out; omega
      clear h2 hi hj
      have hW : (V1 ++ u :: V3).Perm ([u] ++ V) ∧ (V1 ++ u :: V3).Pairwise Lt := by
        have hVp := HV.out
        have e : V = V1 ++ V3 := by rw [← HVV.out]; simp
        rw [e] at hVp ⊢
        refine one_left hVp (fun x hx => ?_) (fun y hy => ?_)
        · have h1 := cross (R := Lt) lt_trans (U1 := V1) (U2 := V3) (V1 := []) (V2 := [u]) hVp (by simp) (fun C x' y' D hC hD => by
            have hy' : y' = u := by simp at hD; exact hD.1.symm
            rw [hy']; exact lt_of_less (HV1.out C x' hC))
          exact h1 x hx u (by simp)
        · have h1 := cross (R := Lt) lt_trans (U1 := [u]) (U2 := []) (V1 := V1) (V2 := V3) (by simp) hVp (fun C x' y' D hC hD => by
            have hx' : u = x' := by
              have := congrArg List.getLast? hC
              simpa using this
            rw [← hx']; exact lt_of_not (Int.not_lt.2 (HV3.out y' D hD)) (HUV.out y' (by rw [e, hD]; simp)))
          exact h1 u (by simp) y hy
      have hRow2 : EtOwn wr B (some ⟨g, 0, none⟩) cap (A ++ ([] ++ u :: (V1 ++ (V3 ++ Q)))) := by
        have := HR.out
        rw [← HVV.out] at this
        simpa using this
      have HW := Lib.hid hW
      have HRow2 := Lib.hid hRow2
      have HV3l := Lib.hid hV3l
      clear hW hRow2 hV3l
      (try clear hi)
      (try clear hj)
      go_wp2
      go_loopw [13] (fun kv wk => ∃ (k : Nat) (C D : List Ev), kv = .int .i64 k ∧ k = a + C.length ∧ C ++ D = V1 ∧ EtOwn wk B (some ⟨g, 0, none⟩) cap (A ++ (C ++ u :: (D ++ (V3 ++ Q)))) ∧ Only w wk (fun k => k = g))
        (fun kv _ => a + V1.length - (intOf kv).toNat)
      case atStart => exact ⟨a, [], V1, rfl, rfl, rfl, HRow2.out, HO.out⟩
      case round =>
        obtain ⟨k, C, D, rfl, hk, hCD, hR3, hO3⟩ := hrel
        have hCl : C.length + D.length = V1.length := by rw [← hCD, List.length_append]
        have HCD := Lib.hid hCD
        have HO3 := Lib.hid hO3
        have HK := Lib.hid hk
        clear hCD hO3
        cases D with
        | nil =>
          obtain ⟨q, hq⟩ : ∃ q, q = a + V1.length := ⟨_, rfl⟩
          have hkq : k = q := by simp at hCl; omega
          subst hkq
          rw [← hq] at hsub
          have hdd : decide (k < k) = false := by simp
          have HR3 := Lib.hid hR3
          clear hR3 hCl hk hq
          go_wp2
          (try simp only [Exit.inBlock, Exit.then])
          refine bodyPost_ret (results_none rfl _ _ _) rfl ?_
          refine ⟨V1 ++ u :: V3, rfl, HW.out.1, HW.out.2, ?_, HO3.out⟩
          have e : A ++ ((V1 ++ u :: V3) ++ Q) = A ++ (C ++ u :: ([] ++ (V3 ++ Q))) := by
            rw [← HCD.out]; simp
          rw [e]; exact HR3.out
        | cons y D' =>
          have p1 : k = (A ++ C).length := by rw [List.length_append, ← HA.out]; exact hk
          have eL : A ++ (C ++ u :: (y :: D' ++ (V3 ++ Q))) = (A ++ C) ++ u :: ([] ++ y :: (D' ++ (V3 ++ Q))) := by simp
          rw [eL] at hR3
          have lenL : ((A ++ C) ++ u :: ([] ++ y :: (D' ++ (V3 ++ Q)))).length = N := by
            have h1 := HLN.out
            have h2 := HV3l.out
            rw [← HVV.out, ← HCD.out] at h1
            rw [← h1]
            simp only [List.length_append, List.length_cons, List.length_nil]
            omega
          have gu : ((A ++ C) ++ u :: ([] ++ y :: (D' ++ (V3 ++ Q)))).getD k e0 = u := getD_mid e0 _ u _ p1
          have gy : ((A ++ C) ++ u :: ([] ++ y :: (D' ++ (V3 ++ Q)))).getD (k + 1) e0 = y := by
            have := getD_mid e0 ((A ++ C) ++ [u]) y (D' ++ (V3 ++ Q)) (i := k + 1) (by rw [p1]; simp only [List.length_append, List.length_cons, List.length_nil])
            simpa using this
          have hkN : k + 1 < N := by rw [← lenL, p1]; simp only [List.length_append, List.length_cons, List.length_nil]; omega
          obtain ⟨x0, x1⟩ := hR3.cells k (by rw [lenL]; omega) gu
          obtain ⟨y0, y1⟩ := hR3.cells (k + 1) (by rw [lenL]; omega) gy
          have f0 := hR3.free (by rw [lenL]; omega) (k * 2)
          have f1 := hR3.free (by rw [lenL]; omega) (k * 2 + 1)
          have f2 := hR3.free (by rw [lenL]; omega) ((k + 1) * 2)
          have f3 := hR3.free (by rw [lenL]; omega) ((k + 1) * 2 + 1)
          have hS := hR3.swap k (k + 1) (by rw [lenL]; omega) (by rw [lenL]; omega) gu gy
          rw [swapL_mid e0 _ u [] y _ p1 (by rw [p1]; rfl)] at hS
          have HS4 := Lib.hid hS
          have hkq : k < a + V1.length := by simp at hCl; omega
          have hkqI : (k : Int) < ((a + V1.length : Nat) : Int) := by omega
          generalize hq : a + V1.length = q at *
          have Hq := Lib.hid hq
          clear hq hS hR3 eL lenL gu gy p1 hCl hk
          have ne00a : ¬ (k + 1) * 2 = k * 2 := by omega
          have ne00b : ¬ k * 2 = (k + 1) * 2 := by omega
          have ne01a : ¬ (k + 1) * 2 = k * 2 + 1 := by omega
          have ne01b : ¬ k * 2 + 1 = (k + 1) * 2 := by omega
          have ne10a : ¬ (k + 1) * 2 + 1 = k * 2 := by omega
          have ne10b : ¬ k * 2 = (k + 1) * 2 + 1 := by omega
          have ne11a : ¬ (k + 1) * 2 + 1 = k * 2 + 1 := by omega
          have ne11b : ¬ k * 2 + 1 = (k + 1) * 2 + 1 := by omega
          have z1 : (0 : Int) ≤ (k : Int) + 1 := by omega
          have z2 : ((k : Int) + 1).toNat = k + 1 := by omega
          have z4 : (k : Int) + 1 < (N : Int) := by omega
          have z5 : (k : Int) < (N : Int) := by omega
          go_wp2
          go_region
          all_goals
            go_wp2
            go_roundw
            case rel =>
              refine ⟨k + 1, C ++ [y], D', by go_num, by have := HK.out; rw [List.length_append]; simp; omega, by rw [← HCD.out]; simp, ?_, ?_⟩
              · have e : A ++ ((C ++ [y]) ++ u :: (D' ++ (V3 ++ Q))) = (A ++ C) ++ y :: ([] ++ u :: (D' ++ (V3 ++ Q))) := by simp
                rw [e]
                exact HS4.out.drewN 1
              · exact (HO3.out.trans (Only.swapT _ g k (k + 1) u y) (fun _ _ c => c)).drewN 1
            case measure => simp only [intOf]; omega
    · obtain ⟨h, hh⟩ : ∃ h, h = (i + j) / 2 := ⟨_, rfl⟩
      have hltI : (i : Int) < (j : Int) := by omega
      have hhI : ((i : Int) + (j : Int)) / 2 = (h : Int) := by omega
      obtain ⟨V2a, V2c, hV2, hV2a⟩ := cut_at V2 (h - i) (by omega)
      obtain ⟨y, V2b, hV2c⟩ : ∃ y V2b, V2c = y :: V2b := by
        cases V2c with
        | nil => have := congrArg List.length hV2; simp at this; omega
        | cons y V2b => exact ⟨y, V2b, rfl⟩
      subst hV2c
      subst hV2
      have hih : i ≤ h := by omega
      have hhj : h < j := by omega
      have hlen2 : V2a.length + (V2b.length + 1) = j - i := by have := hj; simp at this; omega
      have eL : A ++ u :: (V ++ Q) = (A ++ u :: (V1 ++ V2a)) ++ y :: (V2b ++ (V3 ++ Q)) := by rw [← HVV.out]; simp
      have gy : (A ++ u :: (V ++ Q)).getD h e0 = y := by
        rw [eL]
        refine getD_mid e0 _ y _ ?_
        simp only [List.length_append, List.length_cons]
        have := HA.out; have := Hm.out; omega
      have gu : (A ++ u :: (V ++ Q)).getD a e0 = u := getD_mid e0 _ u _ HA.out
      obtain ⟨y0, y1⟩ := HR.out.cells h (by rw [HLN.out]; omega) gy
      obtain ⟨x0, x1⟩ := HR.out.cells a (by rw [HLN.out]; omega) gu
      obtain ⟨z, hz⟩ : ∃ z, z = cmpZ y.t u.t := ⟨_, rfl⟩
      have hCz := HZ.out y u
      unfold itV at hCz
      rw [← hz] at hCz
      have HCz := Lib.hid hCz
      have iN : (h : Int) < (N : Int) := by omega
      have aN : (a : Int) < (N : Int) := by omega
      have HH := Lib.hid hh
      have HI2 := Lib.hid hih
      have HJ2 := Lib.hid hhj
      have HL2 := Lib.hid hlen2
      have HV2a := Lib.hid hV2a
      clear hi hj hh eL gy gu hCz h2 hih hhj hlen2 hV2a
      by_cases hxy : y.t < u.t
      · rw [cmpZ_less hxy] at hz
        have hz0 : z < 0 := by omega
        have HXY := Lib.hid hxy
        clear hz hxy
        go_upto_region 5 with fail
        go_still_tail 9, (by kernel_rfl)
        change wpList _ _ _ _ _ wr.drew
        go_wp2_with fail
        refine (HCz.out _).mono ?_
        rintro e w4 ⟨rfl, o4⟩
        have HR4 := Lib.hid (HR.out.same (w' := w4) fun q hq => o4.block q (HR.out.lt q hq).2 (fun c => c))
        have HO4 := Lib.hid ((HO.out.drewN 1).trans o4 (fun _ _ c => c.elim))
        clear o4
        go_wp2
        go_roundw
        case rel =>
          refine ⟨h + 1, j, V1 ++ (V2a ++ [y]), V2b, V3, by go_num, rfl, ?_, ?_, by rw [← HVV.out]; simp, fun C y' hC => ?_, HV3.out, HR4.out, HO4.out⟩
          · have := HI.out; have := HV2a.out; have := HI2.out
            simp only [List.length_append, List.length_cons, List.length_nil]; omega
          · have := HL2.out; have := HV2a.out; have := HI2.out; have := HJ2.out; omega
          · have hl := congrArg List.getLast? hC
            have e1 : V1 ++ (V2a ++ [y]) = (V1 ++ V2a) ++ [y] := by simp
            rw [e1] at hl
            simp only [List.getLast?_concat, Option.some.injEq] at hl
            rw [← hl]; exact HXY.out
        case measure => simp only [intOf]; have := HI2.out; have := HJ2.out; omega
      · have hz0 : 0 ≤ z := by rw [hz]; exact cmpZ_not hxy
        have HXY := Lib.hid (Int.not_lt.1 hxy)
        clear hz hxy
        go_upto_region 5 with fail
        go_still_tail 9, (by kernel_rfl)
        change wpList _ _ _ _ _ wr.drew
        go_wp2_with fail
        refine (HCz.out _).mono ?_
        rintro e w4 ⟨rfl, o4⟩
        have HR4 := Lib.hid (HR.out.same (w' := w4) fun q hq => o4.block q (HR.out.lt q hq).2 (fun c => c))
        have HO4 := Lib.hid ((HO.out.drewN 1).trans o4 (fun _ _ c => c.elim))
        clear o4
        go_wp2
        go_roundw
        case rel =>
          refine ⟨i, h, V1, V2a, y :: (V2b ++ V3), rfl, rfl, HI.out, ?_, by rw [← HVV.out]; simp, HV1.out, fun y' D hD => ?_, HR4.out, HO4.out⟩
          · have := HV2a.out; have := HI2.out; omega
          · simp only [List.cons.injEq] at hD
            rw [← hD.1]; exact HXY.out
        case measure => simp only [intOf]; have := HI2.out; have := HJ2.out; omega
end Go.Proofs.YtfejlkgddnamoaaGreatDoor
end

section
namespace Go.Proofs.YtfejlkgddnamoaaGreatDoor
open Go Go.RowKit SimPlain HeapPlain SymPlain

set_option maxRecDepth 100000 in
set_option maxHeartbeats 4000000 in
theorem sym_right (A U : List Ev) (v : Ev) (Q : List Ev) (g cap B : Nat) (w : World) (N a m b : Nat) (hN : N = (A ++ (U ++ ([v] ++ Q))).length) (ha : a = A.length) (hm : m = a + U.length) (hb : b = m + 1) (hU2 : 2 ≤ U.length) (hU : U.Pairwise Lt) (hUV : ∀ y ∈ U, Bef y v) (h100 : N ≤ 100)
    (hrow : EtOwn w B (some ⟨g, 0, none⟩) cap (A ++ (U ++ ([v] ++ Q)))) :
    Calls Tryz.prog 70 #[.slice (some ⟨g, 0, none⟩) N cap, .int .i64 a, .int .i64 m, .int .i64 b, fvK] w
      fun e w' => SymRes A U [v] Q g cap B w e w' := by
  have HN := Lib.hid hN
  have HA := Lib.hid ha
  have Hm := Lib.hid hm
  have HU := Lib.hid hU
  have HUV := Lib.hid hUV
  have hbN : b ≤ N := by rw [hN, hb, hm, ha]; simp only [List.length_append, List.length_cons, List.length_nil]; omega
  have ham : a + 2 ≤ m := by omega
  have hma : ((m : Int) - (a : Int) == 1) = false := by rw [beq_eq_false_iff_ne]; omega
  have hbm : (b : Int) - (m : Int) = 1 := by omega
  have hmN : m < N := by omega
  have lenN : (A ++ (U ++ v :: Q)).length = N := by rw [hN]; rfl
  have HLN := Lib.hid lenN
  have HRow : Hid (EtOwn w B (some ⟨g, 0, none⟩) cap (A ++ (U ++ v :: Q))) := Lib.hid (by have := hrow; simpa using this)
  have hgw := lt_of_block (hrow.block (by rw [← hN]; omega)).choose_spec
  have HZ := Lib.hid byKey_any
  clear hN ha hm hU hUV hrow lenN hU2 hb
  unfold fvK
  go_enter Tryz.func70, Tryz.ntmps70
  go_wp2
  go_loopw [14, 15] (fun iv jv wr => ∃ (i j : Nat) (U1 U2 U3 : List Ev), iv = .int .i64 i ∧ jv = .int .i64 j ∧ i = a + U1.length ∧ j = i + U2.length ∧ U1 ++ (U2 ++ U3) = U ∧ (∀ C y, U1 = C ++ [y] → y.t ≤ v.t) ∧ (∀ y D, U3 = y :: D → v.t < y.t) ∧
      EtOwn wr B (some ⟨g, 0, none⟩) cap (A ++ (U ++ v :: Q)) ∧ Only w wr (fun k => k = g))
    (fun iv jv _ => (intOf jv).toNat - (intOf iv).toNat)
  case atStart => exact ⟨a, m, [], U, [], rfl, rfl, rfl, Hm.out, by simp, fun C y h => by simp at h, fun y D h => by simp at h, HRow.out, Only.refl _ _⟩
  case round =>
    obtain ⟨i, j, U1, U2, U3, rfl, rfl, hi, hj, hUU, hU1, hU3, hR, hO⟩ := hrel
    have hlen : U1.length + (U2.length + U3.length) = U.length := by rw [← hUU, List.length_append, List.length_append]
    have HI := Lib.hid hi
    have HJ := Lib.hid hj
    have HUU := Lib.hid hUU
    have HU1 := Lib.hid hU1
    have HU3 := Lib.hid hU3
    have HR := Lib.hid hR
    have HO := Lib.hid hO
    have HL := Lib.hid hlen
    have hjm : j ≤ m := by have := Hm.out; omega
    have hai : a ≤ i := by omega
    clear hUU hU1 hU3 hR hO hlen
    rcases Nat.eq_zero_or_pos U2.length with h2 | h2
    · obtain rfl : U2 = [] := List.eq_nil_of_length_eq_zero h2
      obtain rfl : j = i := by simpa using hj
      have hd : decide ((j : Int) < (j : Int)) = false := by simp
      have hU3l : j + U3.length = m := by have h1 := HL.out; have h2 := Hm.out; have h3 := HI.out; simp only [List.length_nil] at h1; omega
      have hW : (U1 ++ v :: U3).Perm (U ++ [v]) ∧ (U1 ++ v :: U3).Pairwise Lt := by
        have hUp := HU.out
        have e : U = U1 ++ U3 := by rw [← HUU.out]; simp
        rw [e] at hUp ⊢
        refine one_right hUp (fun x hx => ?_) (fun y hy => ?_)
        · have h1 := cross (R := Lt) lt_trans (U1 := U1) (U2 := U3) (V1 := []) (V2 := [v]) hUp (by simp) (fun C x' y' D hC hD => by
            have hy' : y' = v := by simp at hD; exact hD.1.symm
            rw [hy']; exact lt_of_not (Int.not_lt.2 (HU1.out C x' hC)) (HUV.out x' (by rw [e, hC]; simp)))
          exact h1 x hx v (by simp)
        · have h1 := cross (R := Lt) lt_trans (U1 := [v]) (U2 := []) (V1 := U1) (V2 := U3) (by simp) hUp (fun C x' y' D hC hD => by
            have hx' : v = x' := by
              have := congrArg List.getLast? hC
              simpa using this
            rw [← hx']; exact lt_of_less (HU3.out y' D hD))
          exact h1 v (by simp) y hy
      have hRow2 : EtOwn wr B (some ⟨g, 0, none⟩) cap (A ++ (U1 ++ (U3 ++ v :: ([] ++ Q)))) := by
        have := HR.out
        rw [← HUU.out] at this
        simpa using this
      have HW := Lib.hid hW
      have HRow2 := Lib.hid hRow2
      have HU3l := Lib.hid hU3l
      clear hW hRow2 hU3l
      (try clear hi)
      (try clear hj)
      go_wp2
      go_loopw [17] (fun kv wk => ∃ (k : Nat) (C D : List Ev), kv = .int .i64 k ∧ k = j + C.length ∧ C ++ D = U3 ∧ EtOwn wk B (some ⟨g, 0, none⟩) cap (A ++ (U1 ++ (C ++ v :: (D ++ Q)))) ∧ Only w wk (fun k => k = g))
        (fun kv _ => (intOf kv).toNat)
      case atStart => exact ⟨m, U3, [], rfl, HU3l.out.symm, by simp, HRow2.out, HO.out⟩
      case round =>
        obtain ⟨k, C, D, rfl, hk, hCD, hR3, hO3⟩ := hrel
        have hCl : C.length + D.length = U3.length := by rw [← hCD, List.length_append]
        have HCD := Lib.hid hCD
        have HO3 := Lib.hid hO3
        have HK := Lib.hid hk
        clear hCD hO3
        by_cases hC0 : C = []
        · subst hC0
          obtain rfl : k = j := by simpa using hk
          have hdd : decide ((k : Int) < (k : Int)) = false := by simp
          have HR3 := Lib.hid hR3
          clear hR3 hCl
          (try clear hk)
          go_wp2
          (try simp only [Exit.inBlock, Exit.then])
          refine bodyPost_ret (results_none rfl _ _ _) rfl ?_
          refine ⟨U1 ++ v :: U3, rfl, HW.out.1, HW.out.2, ?_, HO3.out⟩
          have e : A ++ ((U1 ++ v :: U3) ++ Q) = A ++ (U1 ++ ([] ++ v :: (D ++ Q))) := by
            rw [← HCD.out]; simp
          rw [e]; exact HR3.out
        · obtain ⟨C', y, rfl⟩ := split_last C hC0
          obtain ⟨p, hp⟩ : ∃ p, k = p + 1 := ⟨k - 1, by rw [hk]; simp; omega⟩
          subst hp
          have p1 : p = (A ++ (U1 ++ C')).length := by
            have h1 := HA.out; have h2 := HI.out
            simp only [List.length_append, List.length_cons, List.length_nil] at hk ⊢
            omega
          have eL : A ++ (U1 ++ ((C' ++ [y]) ++ v :: (D ++ Q))) = (A ++ (U1 ++ C')) ++ y :: v :: (D ++ Q) := by simp
          rw [eL] at hR3
          have lenL : ((A ++ (U1 ++ C')) ++ y :: v :: (D ++ Q)).length = N := by
            have h1 := HLN.out
            have h2 := HUU.out
            rw [← h2, ← HCD.out] at h1
            rw [← h1]
            simp only [List.length_append, List.length_cons, List.length_nil]
            omega
          have gy : ((A ++ (U1 ++ C')) ++ y :: v :: (D ++ Q)).getD p e0 = y := getD_mid e0 _ y _ p1
          have gv : ((A ++ (U1 ++ C')) ++ y :: v :: (D ++ Q)).getD (p + 1) e0 = v := by
            have := getD_mid e0 ((A ++ (U1 ++ C')) ++ [y]) v (D ++ Q) (i := p + 1) (by rw [p1]; simp only [List.length_append, List.length_cons, List.length_nil])
            simpa using this
          have hkN : p + 1 < N := by rw [← lenL, p1]; simp only [List.length_append, List.length_cons, List.length_nil]; omega
          obtain ⟨x0, x1⟩ := hR3.cells p (by rw [lenL]; omega) gy
          obtain ⟨y0, y1⟩ := hR3.cells (p + 1) (by rw [lenL]; omega) gv
          have f0 := hR3.free (by rw [lenL]; omega) (p * 2)
          have f1 := hR3.free (by rw [lenL]; omega) (p * 2 + 1)
          have f2 := hR3.free (by rw [lenL]; omega) ((p + 1) * 2)
          have f3 := hR3.free (by rw [lenL]; omega) ((p + 1) * 2 + 1)
          have hS := hR3.swap (p + 1) p (by rw [lenL]; omega) (by rw [lenL]; omega) gv gy
          rw [swapL_down e0 _ y v _ p1 (by rw [p1])] at hS
          have HS4 := Lib.hid hS
          have hjk : (j : Int) < (p : Int) + 1 := by
            simp only [List.length_append, List.length_cons, List.length_nil] at hk
            omega
          clear hS hR3 eL lenL gy gv p1 hCl hk hC0
          have ne00a : ¬ (p + 1) * 2 = p * 2 := by omega
          have ne00b : ¬ p * 2 = (p + 1) * 2 := by omega
          have ne01a : ¬ (p + 1) * 2 = p * 2 + 1 := by omega
          have ne01b : ¬ p * 2 + 1 = (p + 1) * 2 := by omega
          have ne10a : ¬ (p + 1) * 2 + 1 = p * 2 := by omega
          have ne10b : ¬ p * 2 = (p + 1) * 2 + 1 := by omega
          have ne11a : ¬ (p + 1) * 2 + 1 = p * 2 + 1 := by omega
          have ne11b : ¬ p * 2 + 1 = (p + 1) * 2 + 1 := by omega
          have z1 : (0 : Int) ≤ (p : Int) + 1 := by omega
          have z2 : ((p : Int) + 1).toNat = p + 1 := by omega
          have z3 : (p : Int) + 1 - 1 = (p : Int) := by omega
          have z4 : (p : Int) + 1 < (N : Int) := by omega
          have z5 : (p : Int) < (N : Int) := by omega
          have wk : IntKind.i64.wrap (p : Int) = (p : Int) := wrap_small (by omega)
          go_wp2
          go_region
          all_goals
            go_wp2
            go_roundw
            case rel =>
              refine ⟨p, C', y :: D, by go_num, by have := HK.out; simp only [List.length_append, List.length_cons, List.length_nil] at this; omega, by rw [← HCD.out]; simp, ?_, ?_⟩
              · have e : A ++ (U1 ++ (C' ++ v :: (y :: D ++ Q))) = (A ++ (U1 ++ C')) ++ v :: y :: (D ++ Q) := by simp
                rw [e]
                exact HS4.out.drewN 1
              · exact (HO3.out.trans (Only.swapT _ g (p + 1) p v y) (fun _ _ c => c)).drewN 1
            case measure => simp only [intOf]; omega
    · obtain ⟨h, hh⟩ : ∃ h, h = (i + j) / 2 := ⟨_, rfl⟩
      have hltI : (i : Int) < (j : Int) := by omega
      have hhI : ((i : Int) + (j : Int)) / 2 = (h : Int) := by omega
      obtain ⟨U2a, U2c, hU2, hU2a⟩ := cut_at U2 (h - i) (by omega)
      obtain ⟨y, U2b, hU2c⟩ : ∃ y U2b, U2c = y :: U2b := by
        cases U2c with
        | nil => have := congrArg List.length hU2; simp at this; omega
        | cons y U2b => exact ⟨y, U2b, rfl⟩
      subst hU2c
      subst hU2
      have hih : i ≤ h := by omega
      have hhj : h < j := by omega
      have hlen2 : U2a.length + (U2b.length + 1) = j - i := by have := hj; simp at this; omega
      have eL : A ++ (U ++ v :: Q) = (A ++ (U1 ++ U2a)) ++ y :: (U2b ++ (U3 ++ v :: Q)) := by rw [← HUU.out]; simp
      have gy : (A ++ (U ++ v :: Q)).getD h e0 = y := by
        rw [eL]
        refine getD_mid e0 _ y _ ?_
        simp only [List.length_append, List.length_cons]
        have := HA.out; omega
      have gv : (A ++ (U ++ v :: Q)).getD m e0 = v := by
        have := getD_mid e0 (A ++ U) v Q (i := m) (by rw [List.length_append, ← HA.out]; exact Hm.out)
        simpa using this
      obtain ⟨y0, y1⟩ := HR.out.cells h (by rw [HLN.out]; omega) gy
      obtain ⟨x0, x1⟩ := HR.out.cells m (by rw [HLN.out]; omega) gv
      obtain ⟨z, hz⟩ : ∃ z, z = cmpZ v.t y.t := ⟨_, rfl⟩
      have hCz := HZ.out v y
      unfold itV at hCz
      rw [← hz] at hCz
      have HCz := Lib.hid hCz
      have iN : (h : Int) < (N : Int) := by omega
      have mN : (m : Int) < (N : Int) := by omega
      have HH := Lib.hid hh
      have HI2 := Lib.hid hih
      have HJ2 := Lib.hid hhj
      have HL2 := Lib.hid hlen2
      have HU2a := Lib.hid hU2a
      clear hi hj hh eL gy gv hCz h2 hih hhj hlen2 hU2a
      by_cases hxy : v.t < y.t
      · rw [cmpZ_less hxy] at hz
        have hz0 : z < 0 := by omega
        have HXY := Lib.hid hxy
        clear hz hxy
        go_upto_region 17 with fail
        go_still_tail 9, (by kernel_rfl)
        change wpList _ _ _ _ _ wr.drew
        go_wp2_with fail
        refine (HCz.out _).mono ?_
        rintro e w4 ⟨rfl, o4⟩
        have HR4 := Lib.hid (HR.out.same (w' := w4) fun q hq => o4.block q (HR.out.lt q hq).2 (fun c => c))
        have HO4 := Lib.hid ((HO.out.drewN 1).trans o4 (fun _ _ c => c.elim))
        clear o4
        go_wp2
        go_roundw
        case rel =>
          refine ⟨i, h, U1, U2a, y :: (U2b ++ U3), rfl, rfl, HI.out, ?_, by rw [← HUU.out]; simp, HU1.out, fun y' D hD => ?_, HR4.out, HO4.out⟩
          · have := HU2a.out; have := HI2.out; omega
          · simp only [List.cons.injEq] at hD
            rw [← hD.1]; exact HXY.out
        case measure => simp only [intOf]; have := HI2.out; have := HJ2.out; omega
      · have hz0 : 0 ≤ z := by rw [hz]; exact cmpZ_not hxy
        have hz1 : (!decide (z < 0)) = true := by rw [decide_eq_false (by omega)]; rfl
        have HXY := Lib.hid (Int.not_lt.1 hxy)
        clear hz hxy
        go_upto_region 17 with fail
        go_still_tail 9, (by kernel_rfl)
        change wpList _ _ _ _ _ wr.drew
        go_wp2_with fail
        refine (HCz.out _).mono ?_
        rintro e w4 ⟨rfl, o4⟩
        have HR4 := Lib.hid (HR.out.same (w' := w4) fun q hq => o4.block q (HR.out.lt q hq).2 (fun c => c))
        have HO4 := Lib.hid ((HO.out.drewN 1).trans o4 (fun _ _ c => c.elim))
        clear o4
        go_wp2
        go_roundw
        case rel =>
          refine ⟨h + 1, j, U1 ++ (U2a ++ [y]), U2b, U3, by go_num, rfl, ?_, ?_, by rw [← HUU.out]; simp, fun C y' hC => ?_, HU3.out, HR4.out, HO4.out⟩
          · have := HI.out; have := HU2a.out; have := HI2.out
            simp only [List.length_append, List.length_cons, List.length_nil]; omega
          · have := HL2.out; have := HU2a.out; have := HI2.out; have := HJ2.out; omega
          · have hl := congrArg List.getLast? hC
            have e1 : U1 ++ (U2a ++ [y]) = (U1 ++ U2a) ++ [y] := by simp
            rw [e1] at hl
            simp only [List.getLast?_concat, Option.some.injEq] at hl
            rw [← hl]; exact HXY.out
        case measure => simp only [intOf]; have := HI2.out; have := HJ2.out; omega
end Go.Proofs.YtfejlkgddnamoaaGreatDoor
end

section
namespace Go.Proofs.YtfejlkgddnamoaaGreatDoor
open Go SimPlain HeapPlain SymPlain

/-- from where up to where the cut is looked for -/
def Bnds (a m b mid lo hi : Nat) : Prop := (mid < m ∧ lo + b = mid + m ∧ hi = mid) ∨ (m ≤ mid ∧ lo = a ∧ hi = m)
theorem Bnds.all {a m b mid lo hi : Nat} (h : Bnds a m b mid lo hi) (hmid : mid = (a + b) / 2) (h1 : a ≤ m) (h2 : m ≤ b) : a ≤ lo ∧ lo ≤ hi ∧ hi ≤ m ∧ hi ≤ mid ∧ mid + m ≤ lo + b := by
  rcases h with ⟨c1, c2, c3⟩ | ⟨c1, c2, c3⟩ <;> omega
theorem sym_split (A U V Q : List Ev) (a m b mid lo hi s en : Nat) (ha : a = A.length) (hm : m = a + U.length) (hb : b = m + V.length) (hmid : mid = (a + b) / 2) (hB : Bnds a m b mid lo hi) (hlo : lo ≤ s) (hhi : s ≤ hi) (hen : en + s = mid + m)
    (hU : U.Pairwise Lt) (hV : V.Pairwise Lt) (hUV : ∀ x ∈ U, ∀ y ∈ V, Bef x y)
    (hL : s = lo ∨ ((A ++ (U ++ (V ++ Q))).getD (s - 1) e0).t ≤ ((A ++ (U ++ (V ++ Q))).getD en e0).t) (hR : s = hi ∨ ((A ++ (U ++ (V ++ Q))).getD (en - 1) e0).t < ((A ++ (U ++ (V ++ Q))).getD s e0).t) :
    ∃ U1 U2 V1 V2, U = U1 ++ U2 ∧ V = V1 ++ V2 ∧ U1.length + a = s ∧ V1.length + m = en ∧ U1.length + V1.length + a = mid ∧ U2.length + mid = en ∧ (∀ x ∈ U1, ∀ y ∈ V2, Lt x y) ∧ (∀ x ∈ V1, ∀ y ∈ U2, Lt x y) := by
  obtain ⟨b1, b2, b3, b4, b5⟩ := hB.all hmid (by omega) (by omega)
  obtain ⟨U1, U2, rfl, hU1⟩ := cut_at U (s - a) (by omega)
  obtain ⟨V1, V2, rfl, hV1⟩ := cut_at V (en - m) (by rcases hB with ⟨c1, c2, c3⟩ | ⟨c1, c2, c3⟩ <;> omega)
  have lu : (U1 ++ U2).length = U1.length + U2.length := List.length_append
  have lv : (V1 ++ V2).length = V1.length + V2.length := List.length_append
  have e1 : U1.length + a = s := by omega
  have e2 : V1.length + m = en := by omega
  refine ⟨U1, U2, V1, V2, rfl, rfl, e1, e2, by omega, by omega, ?_, ?_⟩
  · refine cross (R := Lt) lt_trans hU hV fun C x y D hC hD => ?_
    have hx : (A ++ ((U1 ++ U2) ++ ((V1 ++ V2) ++ Q))).getD (s - 1) e0 = x := by
      have := getD_mid e0 (A ++ C) x (U2 ++ ((V1 ++ V2) ++ Q)) (i := s - 1) (by rw [hC] at e1; simp only [List.length_append, List.length_cons, List.length_nil] at e1 ⊢; omega)
      rw [hC]; simpa using this
    have hy : (A ++ ((U1 ++ U2) ++ ((V1 ++ V2) ++ Q))).getD en e0 = y := by
      have := getD_mid e0 (A ++ (U1 ++ U2) ++ V1) y (D ++ Q) (i := en) (by simp only [List.length_append] at hm ⊢; omega)
      rw [hD]; simpa using this
    have hbef : Bef x y := hUV x (by rw [hC]; simp) y (by rw [hD]; simp)
    rcases hL with h | h
    · exfalso
      have h1 : 0 < U1.length := by rw [hC]; simp
      have h2 : 0 < V2.length := by rw [hD]; simp
      rcases hB with ⟨c1, c2, c3⟩ | ⟨c1, c2, c3⟩ <;> omega
    · rw [hx, hy] at h
      exact lt_of_not (Int.not_lt.2 h) hbef
  · refine cross (R := Lt) lt_trans hV hU fun C x y D hC hD => ?_
    have hx : (A ++ ((U1 ++ U2) ++ ((V1 ++ V2) ++ Q))).getD (en - 1) e0 = x := by
      have := getD_mid e0 (A ++ (U1 ++ U2) ++ C) x (V2 ++ Q) (i := en - 1) (by rw [hC] at e2; simp only [List.length_append, List.length_cons, List.length_nil] at hm e2 ⊢; omega)
      rw [hC]; simpa using this
    have hy : (A ++ ((U1 ++ U2) ++ ((V1 ++ V2) ++ Q))).getD s e0 = y := by
      have := getD_mid e0 (A ++ U1) y (D ++ ((V1 ++ V2) ++ Q)) (i := s) (by simp only [List.length_append]; omega)
      rw [hD]; simpa using this
    rcases hR with h | h
    · exfalso
      have h1 : 0 < V1.length := by rw [hC]; simp
      have h2 : 0 < U2.length := by rw [hD]; simp
      rcases hB with ⟨c1, c2, c3⟩ | ⟨c1, c2, c3⟩ <;> omega
    · rw [hx, hy] at h
      exact lt_of_less h
end Go.Proofs.YtfejlkgddnamoaaGreatDoor
end
