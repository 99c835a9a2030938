/- WALKS: items as sortFact has them: rows, order.Check, slices.Clone, the insertion sort by key (printed by a program of our own out of our book texts). -/
import Derived.Test.YtdalffmmkhcdaaaSpBy
import Derived.Laws.Cover3
import Derived.Laws.AppendOwnNone
import Derived.Laws.StructEq
set_option linter.unusedVariables false
set_option linter.unusedSimpArgs false
namespace Go.Proofs.Ytdalffmmkhcdaaa.It
open Go Go.RowKit SimPlain HeapPlain SymPlain

/-! ### rows of items of the document -/
def e2Vals (e : Ev) : List Value := [.int .i64 e.t, .int .i64 e.id]
def flat2 (l : List Ev) : List Value := l.flatMap e2Vals
theorem flat2_length (l : List Ev) : (flat2 l).length = l.length * 2 := by
  induction l with
  | nil => rfl
  | cons p l ih => simp only [flat2, List.flatMap_cons, List.length_append, List.length_cons] at ih ⊢; rw [ih]; simp [e2Vals]; omega
theorem flat2_append (l l' : List Ev) : flat2 (l ++ l') = flat2 l ++ flat2 l' := by simp [flat2]
theorem flat2_get (l : List Ev) : ∀ (i f : Nat), i < l.length → f < 2 → (flat2 l)[i * 2 + f]? = (e2Vals (l.getD i e0))[f]? := by
  induction l with
  | nil => intro i f h; simp at h
  | cons p l ih =>
    intro i f h hf
    have hl : (e2Vals p).length = 2 := rfl
    rw [show flat2 (p :: l) = e2Vals p ++ flat2 l from rfl]
    cases i with
    | zero => rw [Nat.zero_mul, Nat.zero_add, List.getElem?_append_left (by omega)]; rfl
    | succ i =>
      rw [List.getElem?_append_right (by omega), hl, show (i + 1) * 2 + f - 2 = i * 2 + f by omega, ih i f (by simpa using h) hf]; rfl
def EtOwn (w : World) (B : Nat) (a : Option Addr) (cap : Nat) (l : List Ev) : Prop := w.ownsRow B 46 2 (.slice a l.length cap) l.length (flat2 l)
theorem EtOwn.nil (w : World) (B : Nat) : EtOwn w B none 0 [] := World.ownsRow_nil _ _ _ _
theorem EtOwn.lt {w : World} {B : Nat} {a : Option Addr} {cap : Nat} {l : List Ev} (h : EtOwn w B a cap l) : ∀ k, (Value.slice a l.length cap).ownBlock = some k → B ≤ k ∧ k < w.heap.size := World.ownsRow.lt h
theorem EtOwn.of {w : World} {B : Nat} {v : Value} {n : Nat} {l : List Ev} (h : w.ownsRow B 46 2 v n (flat2 l)) : ∃ a cap, v = .slice a l.length cap ∧ EtOwn w B a cap l := by
  have hn : n = l.length := by have := h.1; rw [flat2_length] at this; omega
  subst hn
  rcases h.2 with ⟨rfl, h0⟩ | ⟨g, cap, cur, rfl, _⟩
  · exact ⟨none, 0, by rw [h0], by unfold EtOwn; rw [h0] at h ⊢; exact h⟩
  · exact ⟨_, _, rfl, h⟩
theorem EtOwn.same {w w' : World} {B : Nat} {a : Option Addr} {cap : Nat} {l : List Ev} (h : EtOwn w B a cap l) (hw : ∀ k, (Value.slice a l.length cap).ownBlock = some k → w'.heap[k]? = w.heap[k]?) : EtOwn w' B a cap l := by
  refine ⟨h.1, ?_⟩
  rcases h.2 with h2 | ⟨g, cap', cur, h', hb, hg, hr⟩
  · exact .inl h2
  · refine .inr ⟨g, cap', cur, h', hb, ?_, hr⟩
    rw [hw g (by rw [h']; rfl)]; exact hg
theorem EtOwn.only {w w' : World} {B : Nat} {a : Option Addr} {cap : Nat} {l : List Ev} {own : Nat → Prop} (h : EtOwn w B a cap l) (o : Only w w' own) (hB : ∀ k, own k → k < B) : EtOwn w' B a cap l :=
  h.same fun k hk => o.block k (h.lt k hk).2 fun c => by have := hB k c; have := (h.lt k hk).1; omega
/-- an event of a row -/
theorem EtOwn.open {w : World} {B : Nat} {a : Option Addr} {cap : Nat} {l : List Ev} (h : EtOwn w B a cap l) (h0 : 0 < l.length) :
    ∃ g, a = some ⟨g, 0, none⟩ ∧ B ≤ g ∧ g < w.heap.size ∧ ∀ i, i < l.length → w.cell? ⟨g, i * 2, none⟩ = some (.int .i64 (l.getD i e0).t) ∧ w.cell? ⟨g, i * 2 + 1, none⟩ = some (.int .i64 (l.getD i e0).id) := by
  rcases h.2 with ⟨h', hz⟩ | ⟨g, cap', cur, h', hb, hg, hc, _, hs, ht⟩
  · omega
  · simp only [Value.slice.injEq, true_and] at h'
    obtain ⟨rfl, rfl⟩ := h'
    refine ⟨g, rfl, hb, lt_of_block hg, fun i hi => ?_⟩
    have key : ∀ f, f < 2 → ∀ v, (e2Vals (l.getD i e0))[f]? = some v → w.cell? ⟨g, i * 2 + f, none⟩ = some v := by
      intro f hf v hv
      rw [← flat2_get l i f hi hf, ← ht, List.getElem?_take_of_lt (by omega)] at hv
      simp only [Array.getElem?_toList] at hv
      simp [World.cell?, hg, hv]
    exact ⟨key 0 (by omega) _ rfl, key 1 (by omega) _ rfl⟩
theorem etInfo : (Try.prog.info? 46).map (fun i => (i.zero, i.size, i.bytes)) = some (some (.agg #[.int .i64 0, .int .i64 0]), 2, 16) := by kernel_rfl
theorem one_cells2 (l : List Ev) : ∀ u ∈ flat2 l, u.oneCell' = true := by
  intro u hu
  obtain ⟨e, _, he⟩ := List.mem_flatMap.1 hu
  simp only [e2Vals, List.mem_cons, List.not_mem_nil, or_false] at he
  rcases he with rfl | rfl <;> rfl
theorem grown_below {w w' : World} {r : Option Nat} {B : Nat} (h : w.grownBy w' r) (hB : B ≤ w.heap.size) (hr : ∀ k, r = some k → B ≤ k) : Below B w w' :=
  ⟨h.os, h.tape, h.output, h.size, fun k hk => h.block k (by omega) fun e => by have := hr k e.symm; omega⟩
theorem EtOwn.mono {w : World} {B B' : Nat} {a : Option Addr} {cap : Nat} {l : List Ev} (h : EtOwn w B a cap l) (hB : B' ≤ B) : EtOwn w B' a cap l := by
  refine ⟨h.1, ?_⟩
  rcases h.2 with h | ⟨g, c, cur, h1, h2, h3⟩
  · exact .inl h
  · exact .inr ⟨g, c, cur, h1, by omega, h3⟩
theorem getD_memE {l : List Ev} {i : Nat} (h : i < l.length) : l.getD i e0 ∈ l := by
  rw [List.getD_eq_getElem?_getD, List.getElem?_eq_getElem h]; exact List.getElem_mem h

/-- what is wrong with items -/
def okE (e : Ev) : Bool := decide (-1000000 ≤ e.t) && decide (e.t ≤ 1000000) && (decide (0 ≤ e.id) && decide (e.id ≤ 1000000))
def chkI (l : List Ev) : Int := if 60 < l.length then 4 else if l.all okE = true then 0 else 1
theorem okE_iff (e : Ev) : okE e = true ↔ (-1000000 ≤ e.t ∧ e.t ≤ 1000000) ∧ 0 ≤ e.id ∧ e.id ≤ 1000000 := by simp [okE]
theorem chkI_fine {l : List Ev} (h : chkI l = 0) : l.length ≤ 60 ∧ ∀ e ∈ l, okE e = true := by
  unfold chkI at h
  by_cases h1 : 60 < l.length
  · rw [if_pos h1] at h; omega
  rw [if_neg h1] at h
  by_cases h3 : l.all okE = true
  · exact ⟨by omega, fun e he => List.all_eq_true.1 h3 e he⟩
  · rw [if_neg h3] at h; omega
theorem fine_chkI {l : List Ev} (h1 : l.length ≤ 60) (h2 : ∀ e ∈ l, okE e = true) : chkI l = 0 := by
  unfold chkI
  rw [if_neg (by omega), if_pos (List.all_eq_true.2 h2)]
set_option maxHeartbeats 1000000 in
theorem CheckI_any (l : List Ev) (a : Option Addr) (cap : Nat) (w : World) (hx : EvA w a l) (hl : l.length ≤ 9223372036854775807) :
    Calls Try.prog 20 #[.slice a l.length cap] w fun e w' => e = .returned (errV 59 (chkI l)) ∧ Below w.heap.size w w' := by
  by_cases h1 : 60 < l.length
  · have e : chkI l = 4 := by unfold chkI; rw [if_pos h1]
    rw [e, errV_bad (by decide)]
    clear e
    have h1' : (60 : Int) < l.length := by omega
    go_enter Try.func20, Try.ntmps20
    go_wp2
    go_ret
    exact ⟨rfl, Below.refl _ _⟩
  have h1' : (l.length : Int) ≤ 60 := by omega
  have hlen : l.length ≤ 60 := by omega
  have echk : chkI l = if l.all okE = true then 0 else 1 := by unfold chkI; rw [if_neg h1]
  rw [echk]
  have hbad : (∃ i, i < l.length ∧ okE (l.getD i e0) = false) → (if l.all okE = true then (0 : Int) else 1) = 1 := fun ⟨i, hi, hb⟩ => by
    rw [if_neg]
    intro h
    rw [List.all_eq_true.1 h _ (getD_memE hi)] at hb
    cases hb
  have hgood : (∀ i, i < l.length → okE (l.getD i e0) = true) → (if l.all okE = true then (0 : Int) else 1) = 0 := fun h => by
    rw [if_pos]
    refine List.all_eq_true.2 fun g hg => ?_
    obtain ⟨i, hi, rfl⟩ := List.mem_iff_getElem.1 hg
    have := h i hi
    rwa [List.getD_eq_getElem?_getD, List.getElem?_eq_getElem hi] at this
  generalize (if l.all okE = true then (0 : Int) else 1) = E at hbad hgood ⊢
  have Hbad := Lib.hid hbad
  have Hgood := Lib.hid hgood
  clear h1 echk hbad hgood
  go_enter Try.func20, Try.ntmps20
  go_wp2
  go_loopw [11] (fun i wr => ∃ k : Nat, i = .int .i64 k ∧ k ≤ l.length ∧ (∀ j, j < k → okE (l.getD j e0) = true) ∧ Below w.heap.size w wr) (fun i _ => l.length - (intOf i).toNat)
  case atStart => exact ⟨0, rfl, Nat.zero_le _, fun j hj => by omega, Below.refl _ _⟩
  case round =>
    obtain ⟨k, rfl, hk, hall, hb⟩ := hrel
    have Hall := Lib.hid hall
    clear hall
    rcases Nat.lt_or_ge k l.length with hlt | hge
    · obtain ⟨b, off, rfl, hbl, hc⟩ := hx.open (by omega)
      obtain ⟨c0, c1⟩ := hc k hlt
      replace c0 := (hb.cell (p := ⟨b, off + k * 2, none⟩) hbl).trans c0
      replace c1 := (hb.cell (p := ⟨b, off + k * 2 + 1, none⟩) hbl).trans c1
      have hsz := hb.size
      clear hc
      have Hk : ∀ b, okE (l.getD k e0) = b → okE ⟨(l.getD k e0).t, (l.getD k e0).id, 0⟩ = b := fun b h => h
      have Hb : okE (l.getD k e0) = okE ⟨(l.getD k e0).t, (l.getD k e0).id, 0⟩ := rfl
      clear Hk
      generalize hgw : (l.getD k e0).t = gw at c0 Hb
      generalize hgv : (l.getD k e0).id = gv at c1 Hb
      have HB := Lib.hid Hb
      clear Hb hgw hgv
      by_cases h1 : -1000000 ≤ gw ∧ gw ≤ 1000000
      · by_cases h2 : 0 ≤ gv ∧ gv ≤ 1000000
        · have hg : okE ⟨gw, gv, 0⟩ = true := (okE_iff _).2 ⟨h1, h2⟩
          have Hg := Lib.hid hg
          clear hg
          obtain ⟨p1, p2⟩ := h1
          obtain ⟨q1, q2⟩ := h2
          go_wp2_with fail
          refine (within_yes gw (-1000000) 1000000 p1 p2 _).mono ?_
          rintro e w' ⟨rfl, rfl⟩
          go_wp2_with fail
          refine (within_yes gv 0 1000000 q1 q2 _).mono ?_
          rintro e w' ⟨rfl, rfl⟩
          go_wp2
          go_roundw
          case rel =>
            refine ⟨k + 1, by go_num, by omega, fun j hj => ?_, hb.alloc hsz _⟩
            rcases Nat.lt_or_ge j k with h | h
            · exact Hall.out j h
            · obtain rfl : j = k := by omega
              rw [HB.out]; exact Hg.out
          case measure => simp only [intOf]; omega
        · have hg : okE ⟨gw, gv, 0⟩ = false := by
            rcases hh : okE ⟨gw, gv, 0⟩ with _ | _
            · rfl
            · exact absurd ((okE_iff _).1 hh).2 h2
          have hE := Hbad.out ⟨k, hlt, by rw [HB.out]; exact hg⟩
          have q : gv < 0 ∨ 1000000 < gv := by omega
          have Hq := Lib.hid q
          obtain ⟨p1, p2⟩ := h1
          subst hE
          clear h2 hg q
          go_wp2_with fail
          refine (within_yes gw (-1000000) 1000000 p1 p2 _).mono ?_
          rintro e w' ⟨rfl, rfl⟩
          go_wp2_with fail
          refine (within_no gv 0 1000000 Hq.out _).mono ?_
          rintro e w' ⟨rfl, rfl⟩
          go_wp2
          go_ret
          exact ⟨rfl, hb.alloc hsz _⟩
      · have hg : okE ⟨gw, gv, 0⟩ = false := by
          rcases hh : okE ⟨gw, gv, 0⟩ with _ | _
          · rfl
          · exact absurd ((okE_iff _).1 hh).1 h1
        have hE := Hbad.out ⟨k, hlt, by rw [HB.out]; exact hg⟩
        have q : gw < -1000000 ∨ 1000000 < gw := by omega
        have Hq := Lib.hid q
        subst hE
        clear h1 hg q
        go_wp2_with fail
        refine (within_no gw (-1000000) 1000000 Hq.out _).mono ?_
        rintro e w' ⟨rfl, rfl⟩
        go_wp2
        go_ret
        exact ⟨rfl, hb.alloc hsz _⟩
    · have hE := Hgood.out (fun i hi => Hall.out i (by omega))
      subst hE
      have h3 : (l.length : Int) ≤ k := by omega
      go_wp2
      go_ret
      exact ⟨rfl, hb⟩
theorem EtOwn.free {w : World} {B g cap : Nat} {l : List Ev} (h : EtOwn w B (some ⟨g, 0, none⟩) cap l) (h0 : 0 < l.length) (o : Nat) : w.frozen? ⟨g, o, none⟩ = false := by
  rcases h.2 with ⟨h', hz⟩ | ⟨g', cap', cur, h', hb, hg, hc, hm, hs, ht⟩
  · omega
  · simp only [Value.slice.injEq, Option.some.injEq, Addr.mk.injEq, true_and, and_true] at h'
    obtain ⟨rfl, rfl⟩ := h'
    simp [World.frozen?, hg]
theorem EtOwn.cells {w : World} {B g cap : Nat} {l : List Ev} (h : EtOwn w B (some ⟨g, 0, none⟩) cap l) (i : Nat) (hi : i < l.length) {x : Ev} (hx : l.getD i e0 = x) :
    w.cell? ⟨g, i * 2, none⟩ = some (.int .i64 x.t) ∧ w.cell? ⟨g, i * 2 + 1, none⟩ = some (.int .i64 x.id) := by
  subst hx
  obtain ⟨g', e, _, _, hc⟩ := h.open (by omega)
  obtain rfl : g = g' := by simpa using e
  exact hc i hi
theorem EtOwn.block {w : World} {B g cap : Nat} {l : List Ev} (h : EtOwn w B (some ⟨g, 0, none⟩) cap l) (h0 : 0 < l.length) : ∃ cs, w.heap[g]? = some (.cells cs 46 (0, 0)) := by
  rcases h.2 with ⟨h', hz⟩ | ⟨g', cap', cur, h', hb, hg, hc, hm, hs, ht⟩
  · omega
  · simp only [Value.slice.injEq, Option.some.injEq, Addr.mk.injEq, true_and, and_true] at h'
    obtain ⟨rfl, rfl⟩ := h'
    exact ⟨_, hg⟩
/-- an item stored -/
theorem EtOwn.set {w : World} {B g cap : Nat} {l : List Ev} (h : EtOwn w B (some ⟨g, 0, none⟩) cap l) (i : Nat) (hi : i < l.length) (e : Ev) :
    EtOwn ((w.setCell ⟨g, i * 2, none⟩ (.int .i64 e.t)).setCell ⟨g, i * 2 + 1, none⟩ (.int .i64 e.id)) B (some ⟨g, 0, none⟩) cap (l.set i e) := by
  unfold EtOwn
  rw [List.length_set]
  refine ⟨by rw [flat2_length, List.length_set], ?_⟩
  rcases h.2 with ⟨h', hz⟩ | ⟨g', cap', cur, h', hb, hg, hc, hm, hs, ht⟩
  · omega
  · simp only [Value.slice.injEq, Option.some.injEq, Addr.mk.injEq, true_and, and_true] at h'
    obtain ⟨rfl, rfl⟩ := h'
    refine .inr ⟨g, cap, (cur.setIfInBounds (i * 2) (.int .i64 e.t)).setIfInBounds (i * 2 + 1) (.int .i64 e.id), rfl, hb, ?_, hc, hm, by simpa using hs, ?_⟩
    · exact heap_setCell_same _ g _ _ _ _ (heap_setCell_same _ g _ _ _ _ hg)
    · apply List.ext_getElem?
      intro j
      rcases Nat.lt_or_ge j (l.length * 2) with hj | hj
      · have hj' : j / 2 * 2 + j % 2 = j := by omega
        have h3 := flat2_get (l.set i e) (j / 2) (j % 2) (by rw [List.length_set]; omega) (by omega)
        have h4 := flat2_get l (j / 2) (j % 2) (by omega) (by omega)
        rw [hj'] at h3 h4
        rw [h3, List.getElem?_take_of_lt hj, Array.getElem?_toList]
        have h5 : cur[j]? = (flat2 l)[j]? := by rw [← ht, List.getElem?_take_of_lt hj, Array.getElem?_toList]
        rw [getD_set e0 l i (j / 2) e hi]
        have hjs : j < cur.size := by omega
        simp only [Array.getElem?_setIfInBounds, Array.size_setIfInBounds]
        by_cases e1 : j / 2 = i
        · rw [if_pos e1]
          have : j = i * 2 ∨ j = i * 2 + 1 := by omega
          rcases this with h6 | h6
          · rw [if_neg (by omega), if_pos h6.symm, if_pos (by omega), show j % 2 = 0 by omega]; rfl
          · rw [if_pos h6.symm, if_pos (by omega), show j % 2 = 1 by omega]; rfl
        · rw [if_neg e1, if_neg (by omega), if_neg (by omega), h5, h4]
      · rw [List.getElem?_eq_none (by simp; omega), List.getElem?_eq_none (by rw [flat2_length, List.length_set]; exact hj)]
/-- the exchange of two items -/
def swapT (w : World) (g i j : Nat) (u v : Ev) : World :=
  (((w.setCell ⟨g, i * 2, none⟩ (.int .i64 v.t)).setCell ⟨g, i * 2 + 1, none⟩ (.int .i64 v.id)).setCell ⟨g, j * 2, none⟩ (.int .i64 u.t)).setCell ⟨g, j * 2 + 1, none⟩ (.int .i64 u.id)
theorem EtOwn.swap {w : World} {B g cap : Nat} {l : List Ev} (h : EtOwn w B (some ⟨g, 0, none⟩) cap l) (i j : Nat) (hi : i < l.length) (hj : j < l.length) {u v : Ev} (hu : l.getD i e0 = u) (hv : l.getD j e0 = v) :
    EtOwn (swapT w g i j u v) B (some ⟨g, 0, none⟩) cap (swapL e0 l i j) := by
  subst hu hv
  exact (h.set i hi _).set j (by simpa using hj) _
theorem Only.swapT (w : World) (g i j : Nat) (u v : Ev) : Only w (swapT w g i j u v) (fun k => k = g) := by
  have s : ∀ (W : World) (o : Nat) (x : Value), Only W (W.setCell ⟨g, o, none⟩ x) (fun k => k = g) := fun W o x => Only.setCell W ⟨g, o, none⟩ x (fun k => k = g) rfl
  exact (((s _ _ _).trans (s _ _ _) (fun _ _ c => c)).trans (s _ _ _) (fun _ _ c => c)).trans (s _ _ _) (fun _ _ c => c)
theorem EtOwn.drewN {w : World} {B cap : Nat} {a : Option Addr} {l : List Ev} (h : EtOwn w B a cap l) (n : Nat) : EtOwn (w.drewN n) B a cap l := h

def itV (e : Ev) : Value := .agg #[.int .i64 e.t, .int .i64 e.id]
theorem byKey_any (x y : Ev) (w : World) : Calls Try.prog 23 #[itV x, itV y] w fun e w' => e = .returned (.int .i64 (cmpZ x.t y.t)) ∧ Only w w' (fun _ => False) := by
  have hC := fun W => compare_any x.t y.t W
  have HC := Lib.hid hC
  clear hC
  unfold itV
  have o1 : Only w ((w.alloc (.cells #[.int .i64 x.t, .int .i64 x.id] 46)).alloc (.cells #[.int .i64 y.t, .int .i64 y.id] 46)) (fun _ => False) :=
    (Only.alloc _ _ (fun _ => False)).trans (Only.alloc _ _ (fun _ => False)) (fun _ _ c => c)
  have HO := Lib.hid o1
  clear o1
  go_enter Try.func23, Try.ntmps23
  go_wp2_with fail
  refine (HC.out _).mono ?_
  rintro e w' ⟨rfl, rfl⟩
  go_wp2
  go_ret
  exact ⟨rfl, HO.out⟩
/-- who came in first -/
def Bef (a b : Ev) : Prop := a.s < b.s
theorem lt_trans (a b c : Ev) (h : Lt a b) (k : Lt b c) : Lt a c := by unfold Lt at *; omega
theorem lt_of_less {x y : Ev} (h : x.t < y.t) : Lt x y := .inl h
theorem lt_of_not {x y : Ev} (h : ¬ x.t < y.t) (hb : Bef y x) : Lt y x := by unfold Lt; unfold Bef at hb; omega
def fvK : Value := .func (.func 23) #[] #[]
theorem wrap_small {k : Nat} (h : k ≤ 1000) : IntKind.i64.wrap (k : Int) = (k : Int) := IntWalk.i64_in _ (by omega)
set_option maxRecDepth 100000 in
set_option maxHeartbeats 4000000 in
theorem insertion_any (A U Q : List Ev) (g cap B : Nat) (w : World) (N a b : Nat) (hN : N = (A ++ (U ++ Q)).length) (ha : a = A.length) (hb : b = A.length + U.length) (hU : U.Pairwise Bef) (h100 : N ≤ 100) (hgw : g < w.heap.size)
    (hrow : EtOwn w B (some ⟨g, 0, none⟩) cap (A ++ (U ++ Q))) :
    Calls Try.prog 30 #[.slice (some ⟨g, 0, none⟩) N cap, .int .i64 a, .int .i64 b, fvK] w
      fun e w' => ∃ W, e = .returned (.tuple #[]) ∧ W.Perm U ∧ W.Pairwise Lt ∧ EtOwn w' B (some ⟨g, 0, none⟩) cap (A ++ (W ++ Q)) ∧ Only w w' (fun k => k = g) := by
  have HN := Lib.hid hN
  have HA := Lib.hid ha
  have HB := Lib.hid hb
  have HU := Lib.hid hU
  have HRow := Lib.hid hrow
  have hbN : b ≤ N := by rw [hN, hb]; simp only [List.length_append]; omega
  have hab : a ≤ b := by omega
  have HC := Lib.hid byKey_any
  clear hN ha hb hU hrow
  unfold fvK
  rcases Nat.lt_or_ge a b with hab1 | hab1
  · obtain ⟨u0, U0, hu0⟩ : ∃ u U', U = u :: U' := by
      cases U with
      | nil => have := HA.out; have := HB.out; simp at this; omega
      | cons u U' => exact ⟨u, U', rfl⟩
    have HU0 := Lib.hid hu0
    clear hu0
    go_enter Try.func30, Try.ntmps30
    go_wp2
    go_loopw [8] (fun iv wr => ∃ (i : Nat) (U1 U2 W : List Ev), iv = .int .i64 i ∧ i ≤ b ∧ a + U1.length = i ∧ U1 ++ U2 = U ∧ W.Perm U1 ∧ W.Pairwise Lt ∧ EtOwn wr B (some ⟨g, 0, none⟩) cap (A ++ (W ++ (U2 ++ Q))) ∧ Only w wr (fun k => k = g))
      (fun iv _ => b - (intOf iv).toNat)
    case atStart => exact ⟨a + 1, [u0], U0, [u0], by go_num, hab1, rfl, by rw [HU0.out]; rfl, List.Perm.refl _, by simp, by have := HRow.out; rw [HU0.out] at this; simpa using this, Only.refl _ _⟩
    case round =>
      obtain ⟨i, U1, U2, W, rfl, hib, hi, hUU, hp, hs, hR, hO⟩ := hrel
      have HUU := Lib.hid hUU
      have HP := Lib.hid hp
      have HS := Lib.hid hs
      have HR := Lib.hid hR
      have HO := Lib.hid hO
      have HI := Lib.hid hi
      have hUl : U1.length + U2.length = U.length := by rw [← hUU, List.length_append]
      clear hUU hp hs hR hO hi
      rcases Nat.lt_or_ge i b with hlt | hge
      · obtain ⟨x, U3, rfl⟩ : ∃ x U3, U2 = x :: U3 := by
          cases U2 with
          | nil => have := HB.out; have := HA.out; have := HI.out; simp at hUl; omega
          | cons x U3 => exact ⟨x, U3, rfl⟩
        have hltI : (i : Int) < (b : Int) := by omega
        have Hlt := Lib.hid hlt
        have hbef : ∀ y ∈ W, Bef y x := fun y hy => by
          have h1 := HU.out
          rw [← HUU.out] at h1
          exact (List.pairwise_append.1 h1).2.2 y (HP.out.mem_iff.1 hy) x (by simp)
        have HBef := Lib.hid hbef
        have HUl := Lib.hid hUl
        clear hlt hbef hUl
        obtain ⟨w1, hw1⟩ : ∃ w1, w1 = wr := ⟨_, rfl⟩
        go_wp2
        go_loopw [9] (fun jv wx => ∃ (j : Nat) (C D : List Ev), jv = .int .i64 j ∧ j ≤ i ∧ j = a + C.length ∧ C ++ D = W ∧ (∀ y ∈ D, Lt x y) ∧ EtOwn wx B (some ⟨g, 0, none⟩) cap (A ++ (C ++ x :: (D ++ (U3 ++ Q)))) ∧ Only w wx (fun k => k = g))
          (fun jv _ => (intOf jv).toNat)
        case atStart =>
          refine ⟨i, W, [], rfl, Nat.le_refl _, by rw [HP.out.length_eq]; exact HI.out.symm, by simp, by simp, by simpa using HR.out, HO.out⟩
        case round =>
          obtain ⟨j, C, D, rfl, hji, hj, hCD, hD, hR2, hO2⟩ := hrel
          have HCD := Lib.hid hCD
          have HD := Lib.hid hD
          have HO2 := Lib.hid hO2
          have HJ := Lib.hid hj
          have hlenN : (A ++ (C ++ x :: (D ++ (U3 ++ Q)))).length = N := by
            have h1 := HUl.out
            have h2 := HP.out.length_eq
            rw [← hCD] at h2
            rw [HN.out]
            simp only [List.length_append, List.length_cons] at h1 h2 ⊢
            omega
          clear hCD hD hO2
          by_cases hC0 : C = []
          · subst hC0
            have hja : j = a := by simpa using hj
            subst hja
            have HR2 := Lib.hid hR2
            have hdd : decide ((j : Int) < (j : Int)) = false := by simp
            clear hR2 hj hlenN
            go_wp2
            go_quiet (fail)
            go_wp2
            go_roundw
            case rel =>
              have hCD0 : D = W := by simpa using HCD.out
              have hmid := one_right (v := x) (U1 := []) (U2 := D) (R := Lt) (by rw [hCD0]; exact HS.out) (by simp) HD.out
              refine ⟨i + 1, U1 ++ [x], U3, x :: D, by go_num, Hlt.out, by rw [List.length_append, ← Nat.add_assoc, HI.out]; rfl, by rw [← HUU.out]; simp, ?_, hmid.2, ?_, HO2.out.drewN _⟩
              · have h1 := hmid.1
                simp only [List.nil_append] at h1
                rw [hCD0] at h1 ⊢
                exact h1.trans (HP.out.append_right [x])
              · have := HR2.out.drewN nq
                simpa using this
            case measure => simp only [intOf]; have := Hlt.out; omega
          · obtain ⟨C', y, rfl⟩ := split_last C hC0
            obtain ⟨k, hk⟩ : ∃ k, j = k + 1 := ⟨j - 1, by rw [hj]; simp; omega⟩
            subst hk
            have hkC : k = (A ++ C').length := by have h1 := HA.out; rw [List.length_append]; simp at hj; omega
            have eL : A ++ ((C' ++ [y]) ++ x :: (D ++ (U3 ++ Q))) = (A ++ C') ++ y :: x :: (D ++ (U3 ++ Q)) := by simp
            rw [eL] at hR2 hlenN
            have hkN : k + 1 < N := by rw [← hlenN, hkC]; simp only [List.length_append, List.length_cons]; omega
            have gy : ((A ++ C') ++ y :: x :: (D ++ (U3 ++ Q))).getD k e0 = y := getD_mid e0 _ y _ hkC
            have gx : ((A ++ C') ++ y :: x :: (D ++ (U3 ++ Q))).getD (k + 1) e0 = x := by
              have := getD_mid e0 ((A ++ C') ++ [y]) x (D ++ (U3 ++ Q)) (i := k + 1) (by rw [hkC]; simp only [List.length_append, List.length_cons, List.length_nil])
              simpa using this
            obtain ⟨y0, y1⟩ := hR2.cells k (by rw [hlenN]; omega) gy
            obtain ⟨x0, x1⟩ := hR2.cells (k + 1) (by rw [hlenN]; omega) gx
            have HR2 := Lib.hid hR2
            have HG := Lib.hid (And.intro gx gy)
            have HKC := Lib.hid hkC
            have HLN := Lib.hid hlenN
            have hgx := lt_of_block (hR2.block (by rw [hlenN]; omega)).choose_spec
            have hka : (a : Int) < (k : Int) + 1 := by have := HJ.out; simp at this; omega
            have z1 : (0 : Int) ≤ (k : Int) + 1 := by omega
            have z2 : ((k : Int) + 1).toNat = k + 1 := by omega
            have z3 : (k : Int) + 1 - 1 = (k : Int) := by omega
            have z4 : (k : Int) + 1 < (N : Int) := by omega
            have wk : IntKind.i64.wrap (k : Int) = (k : Int) := wrap_small (by omega)
            have z5 : (k : Int) < (N : Int) := by omega
            obtain ⟨z, hz⟩ : ∃ z, z = cmpZ x.t y.t := ⟨_, rfl⟩
            have hCz := byKey_any x y
            unfold itV at hCz
            rw [← hz] at hCz
            have HCz := Lib.hid hCz
            have HKa := Lib.hid hka
            clear hCz hR2 gx gy hkC hlenN eL hj hC0
            by_cases hxy : x.t < y.t
            · rw [cmpZ_less hxy] at hz
              have hz0 : z < 0 := by omega
              have HLt := Lib.hid (lt_of_less hxy)
              clear hz hxy
              go_upto_region 4 with fail
              go_still_tail 14, (by kernel_rfl)
              change wpList _ _ _ _ _ wr.drew
              go_wp2_with fail
              refine (HCz.out _).mono ?_
              rintro e w4 ⟨rfl, o4⟩
              have hR4 := HR2.out.same (w' := w4) fun q hq => o4.block q (HR2.out.lt q hq).2 (fun c => c)
              have HO4 := Lib.hid ((HO2.out.drewN 1).trans o4 (fun _ _ c => c.elim))
              obtain ⟨y0, y1⟩ := hR4.cells k (by rw [HLN.out]; omega) HG.out.2
              obtain ⟨x0, x1⟩ := hR4.cells (k + 1) (by rw [HLN.out]; omega) HG.out.1
              have f0 := hR4.free (by rw [HLN.out]; omega) (k * 2)
              have f1 := hR4.free (by rw [HLN.out]; omega) (k * 2 + 1)
              have f2 := hR4.free (by rw [HLN.out]; omega) ((k + 1) * 2)
              have f3 := hR4.free (by rw [HLN.out]; omega) ((k + 1) * 2 + 1)
              have hS := hR4.swap (k + 1) k (by rw [HLN.out]; omega) (by rw [HLN.out]; omega) HG.out.1 HG.out.2
              rw [swapL_down e0 _ y x _ HKC.out (by rw [HKC.out])] at hS
              have HS4 := Lib.hid hS
              have ne00a : ¬ (k + 1) * 2 = k * 2 := by omega
              have ne00b : ¬ k * 2 = (k + 1) * 2 := by omega
              have ne01a : ¬ (k + 1) * 2 = k * 2 + 1 := by omega
              have ne01b : ¬ k * 2 + 1 = (k + 1) * 2 := by omega
              have ne10a : ¬ (k + 1) * 2 + 1 = k * 2 := by omega
              have ne10b : ¬ k * 2 = (k + 1) * 2 + 1 := by omega
              have ne11a : ¬ (k + 1) * 2 + 1 = k * 2 + 1 := by omega
              have ne11b : ¬ k * 2 + 1 = (k + 1) * 2 + 1 := by omega
              clear o4 hR4 hS
              go_wp2
              go_region
              all_goals
                go_wp2
                go_roundw
                case rel =>
                  refine ⟨k, C', y :: D, by go_num, by omega, by have := HKC.out; rw [List.length_append, ← HA.out] at this; exact this, by rw [← HCD.out]; simp, fun v hv => ?_, ?_, ?_⟩
                  · rcases List.mem_cons.1 hv with e | e
                    · rw [e]; exact HLt.out
                    · exact HD.out v e
                  · have e : A ++ (C' ++ x :: (y :: D ++ (U3 ++ Q))) = (A ++ C') ++ x :: y :: (D ++ (U3 ++ Q)) := by simp
                    rw [e]
                    exact HS4.out.drewN 1
                  · exact (HO4.out.trans (Only.swapT _ g (k + 1) k x y) (fun _ _ c => c)).drewN 1
                case measure => simp only [intOf]; omega
            · have hz0 : 0 ≤ z := by rw [hz]; exact cmpZ_not hxy
              have HLt := Lib.hid (lt_of_not hxy (HBef.out y (by rw [← HCD.out]; simp)))
              clear hz hxy
              go_upto_region 4 with fail
              go_still_tail 14, (by kernel_rfl)
              change wpList _ _ _ _ _ wr.drew
              go_wp2_with fail
              refine (HCz.out _).mono ?_
              rintro e w4 ⟨rfl, o4⟩
              have hR4 := HR2.out.same (w' := w4) fun q hq => o4.block q (HR2.out.lt q hq).2 (fun c => c)
              have HR4 := Lib.hid hR4
              have HO4 := Lib.hid ((HO2.out.drewN 1).trans o4 (fun _ _ c => c.elim))
              clear o4 hR4
              go_wp2
              go_roundw
              case rel =>
                have hmid := one_right (v := x) (U1 := C' ++ [y]) (U2 := D) (R := Lt) (by rw [HCD.out]; exact HS.out) (all_before lt_trans (by have := HS.out; rw [← HCD.out] at this; exact (List.pairwise_append.1 this).1) HLt.out) HD.out
                refine ⟨i + 1, U1 ++ [x], U3, (C' ++ [y]) ++ x :: D, by go_num, Hlt.out, by rw [List.length_append, ← Nat.add_assoc, HI.out]; rfl, by rw [← HUU.out]; simp, ?_, hmid.2, ?_, HO4.out⟩
                · rw [HCD.out] at hmid
                  exact hmid.1.trans (HP.out.append_right [x])
                · have e : A ++ ((C' ++ [y] ++ x :: D) ++ (U3 ++ Q)) = (A ++ C') ++ y :: x :: (D ++ (U3 ++ Q)) := by simp
                  rw [e]
                  exact HR4.out
              case measure => simp only [intOf]; have := Hlt.out; omega
      · obtain rfl : i = b := by omega
        obtain rfl : U2 = [] := by
          cases U2 with
          | nil => rfl
          | cons x U3 => have := HB.out; have := HA.out; have := HI.out; simp at hUl; omega
        have hd : decide (i < i) = false := by simp
        clear hUl
        go_wp2
        go_end0
        refine ⟨W, rfl, ?_, HS.out, by have := HR.out; simpa using this, HO.out⟩
        have := HUU.out
        rw [List.append_nil] at this
        rw [← this]; exact HP.out
  · obtain rfl : U = [] := List.eq_nil_of_length_eq_zero (by have := HB.out; have := HA.out; omega)
    have hd : decide ((a : Int) + 1 < (b : Int)) = false := by rw [decide_eq_false_iff_not]; omega
    go_enter Try.func30, Try.ntmps30
    go_wp2
    refine wp_loop_rounds 1 ?_
    rw [rounds_succ]
    go_wp2
    go_end0
    exact ⟨[], rfl, List.Perm.refl _, by simp, HRow.out, Only.refl _ _⟩
theorem EvA_from {w : World} {b off : Nat} {l : List Ev} (hc : ∀ i, i < l.length → w.cell? ⟨b, off + i * 2, none⟩ = some (.int .i64 (l.getD i e0).t) ∧ w.cell? ⟨b, off + i * 2 + 1, none⟩ = some (.int .i64 (l.getD i e0).id)) :
    ∀ j u, (flat2 l)[j]? = some u → w.cell? ((⟨b, off, none⟩ : Addr).add j) = some u := by
  intro j u hu
  have hj : j < l.length * 2 := by
    rw [← flat2_length]
    rcases Nat.lt_or_ge j (flat2 l).length with h | h
    · exact h
    · rw [List.getElem?_eq_none h] at hu; cases hu
  have e1 : j / 2 * 2 + j % 2 = j := by omega
  have h3 := flat2_get l (j / 2) (j % 2) (by omega) (by omega)
  rw [e1, hu] at h3
  obtain ⟨k0, k1⟩ := hc (j / 2) (by omega)
  have ea : ((⟨b, off, none⟩ : Addr).add j) = ⟨b, off + j, none⟩ := by unfold Addr.add; split <;> simp_all
  rw [ea]
  rcases (show j % 2 = 0 ∨ j % 2 = 1 by omega) with h | h
  · rw [h] at h3
    rw [show off + j = off + j / 2 * 2 by omega, k0, h3]; rfl
  · rw [h] at h3
    rw [show off + j = off + j / 2 * 2 + 1 by omega, k1, h3]; rfl
theorem eql_slice_nil (w : World) (a : Addr) (l c : Nat) : (binOp .eql 42 (.slice (some a) l c) (.slice none 0 0)).run Try.prog w = .ok (.bool false) w := by
  simp only [binOp]
  simp [run_equal_slice_nil w 42 46 (some a) l c Try.underlying42]
set_option maxRecDepth 100000 in
theorem clone_any (l : List Ev) (b off cap N : Nat) (w : World) (hN : N = l.length) (h0 : 0 < N) (h60 : N ≤ 60) (hb : b < w.heap.size)
    (hc : ∀ i, i < l.length → w.cell? ⟨b, off + i * 2, none⟩ = some (.int .i64 (l.getD i e0).t) ∧ w.cell? ⟨b, off + i * 2 + 1, none⟩ = some (.int .i64 (l.getD i e0).id)) :
    Calls Try.prog 21 #[.slice (some ⟨b, off, none⟩) N cap] w
      fun e w' => ∃ g c, e = .returned (.slice (some ⟨g, 0, none⟩) N c) ∧ EtOwn w' w.heap.size (some ⟨g, 0, none⟩) c l ∧ Below w.heap.size w w' := by
  obtain ⟨i0, hi0, hz0, hz1, hz2⟩ := info_parts etInfo
  have hl2 : (flat2 l).length = N * 2 := by rw [flat2_length, hN]
  have HN := Lib.hid hN
  have HL := Lib.hid hl2
  have HF : Hid (∀ w', Below w.heap.size w w' → ∀ j u, (flat2 l)[j]? = some u → w'.cell? ((⟨b, off, none⟩ : Addr).add j) = some u) := Lib.hid fun w' hb' =>
    EvA_from fun i hi => ⟨(hb'.cell (p := ⟨b, off + i * 2, none⟩) hb).trans (hc i hi).1, (hb'.cell (p := ⟨b, off + i * 2 + 1, none⟩) hb).trans (hc i hi).2⟩
  have heq := eql_slice_nil w ⟨b, off, none⟩ N cap
  clear hc hN hl2
  go_enter Try.func21, Try.ntmps21
  have hW1 : Below w.heap.size w (w.alloc (.cells #[] 46)) := (Below.refl _ _).alloc (Nat.le_refl _) _
  have HW1 := Lib.hid hW1
  have hown0 : (w.alloc (.cells #[] 46)).ownsRow w.heap.size 46 2 (.slice (some ⟨w.heap.size, 0, none⟩) 0 0) 0 [] :=
    ⟨rfl, .inr ⟨w.heap.size, 0, #[], rfl, Nat.le_refl _, heap_alloc_new _ _, Nat.le_refl _, by unfold maxLen; omega, rfl, rfl⟩⟩
  have HOwn := Lib.hid hown0
  have hle1 : w.heap.size ≤ (w.alloc (.cells #[] 46)).heap.size := hW1.size
  have HLe := Lib.hid hle1
  have HNew := Lib.hid (HF.out _ hW1)
  have hres : Hid (∀ v' w', w'.ownsRow w.heap.size 46 2 v' (0 + N) ([] ++ flat2 l) → (w.alloc (.cells #[] 46)).grownBy w' (Value.slice (some ⟨w.heap.size, 0, none⟩) 0 0).ownBlock → ∃ g c, v' = .slice (some ⟨g, 0, none⟩) N c ∧ EtOwn w' w.heap.size (some ⟨g, 0, none⟩) c l ∧ Below w.heap.size w w') := Lib.hid fun v' w' o gr => by
    rw [List.nil_append] at o
    obtain ⟨a, c, rfl, hE⟩ := EtOwn.of o
    obtain ⟨g, rfl, _⟩ := hE.open (by rw [← HN.out]; exact h0)
    exact ⟨g, c, by rw [HN.out], hE, HW1.out.trans (grown_below gr HLe.out (fun k hk => by simp [Value.ownBlock] at hk; omega))⟩
  clear hW1 hown0 hle1
  go_wp2_with (at_builtin; refine wpList_append_own _ rfl (.tmp 5) (.tmp 6) 42 rfl w.heap.size 46 i0 (.agg #[.int .i64 0, .int .i64 0]) 2 16 Try.underlying42 hi0 hz0 hz1 hz2 rfl (by decide) (.slice (some ⟨w.heap.size, 0, none⟩) 0 0) 0 [] rfl HOwn.out ⟨b, off, none⟩ N cap (flat2 l) rfl HL.out HNew.out (one_cells2 _) (by unfold maxLen; omega) (by omega) HLe.out ?_; intro v2 w2 o2 g2 _; have HR := Lib.hid (hres.out v2 w2 o2 g2); clear o2 g2)
  go_ret
  obtain ⟨g, c, e1, e2, e3⟩ := HR.out
  exact ⟨g, c, by rw [e1]; rfl, e2, e3⟩
end Go.Proofs.Ytdalffmmkhcdaaa.It
