/- WALK: sack.Best: the most that goods are worth, and which. -/
import Derived.Test.YtomgcfjdmoefgaaDoorSackCut
import Derived.Maps.AppendAt
import Derived.OwnWalk
namespace Go.Proofs.YtomgcfjdmoefgaaDoor
open Go Go.RowKit SackPlain
open SortPlain (asInts asInts_length)

/-- the table's cell -/
def D (l : List Gd) (k q : Nat) : Int := most (l.drop k) q
theorem D_range {l : List Gd} (h : Ok l) (k q : Nat) : 0 ≤ D l k q ∧ D l k q ≤ 16000 := by
  have hm : ∀ g ∈ l.drop k, g ∈ l := fun g hg => List.mem_of_mem_drop hg
  have a := most_nonneg (l.drop k) (fun g hg => (h.all g (hm g hg)).2.2.1) q
  have b := most_le (l.drop k) 1000 (by decide) (fun g hg => (h.all g (hm g hg)).2.2.2) q
  have c := h.short
  have d : (l.drop k).length ≤ 16 := by rw [List.length_drop]; omega
  unfold D
  omega
theorem D_last (l : List Gd) (q : Nat) : D l l.length q = 0 := by unfold D; rw [List.drop_length]; rfl
theorem drop_cons (l : List Gd) (k : Nat) (h : k < l.length) : l.drop k = l.getD k g0 :: l.drop (k + 1) := by
  rw [List.drop_eq_getElem_cons h, List.getD_eq_getElem?_getD, List.getElem?_eq_getElem h]; rfl
theorem D_no {l : List Gd} {k q : Nat} (h : k < l.length) (hq : (q : Int) < wOf l k) : D l k q = D l (k + 1) q := by
  unfold D
  rw [drop_cons l k h]
  show (if (l.getD k g0).w ≤ (q : Int) then _ else _) = _
  rw [if_neg]; unfold wOf at hq; omega
theorem D_yes {l : List Gd} {k q p : Nat} (h : k < l.length) (hq : wOf l k ≤ q) (hp : (p : Int) = q - wOf l k) : D l k q = max (D l (k + 1) q) (D l (k + 1) p + vOf l k) := by
  unfold D
  rw [drop_cons l k h]
  show (if (l.getD k g0).w ≤ (q : Int) then _ else _) = _
  rw [if_pos (by unfold wOf at hq; exact hq), hp]; rfl
/-- what is told from place k on -/
theorem told_step {l : List Gd} {k : Nat} (h : k < l.length) (r : Int) : told (l.drop k) r = if wOf l k ≤ r ∧ most (l.drop (k + 1)) (r - wOf l k) + vOf l k = most (l.drop k) r then true :: told (l.drop (k + 1)) (r - wOf l k) else false :: told (l.drop (k + 1)) r := by
  rw [drop_cons l k h]; rfl
def chosen (bs : List Bool) (k : Nat) : List Nat := (List.range k).filter fun i => bs.getD i false
theorem chosen_succ (bs : List Bool) (k : Nat) : chosen bs (k + 1) = chosen bs k ++ if bs.getD k false = true then [k] else [] := by
  unfold chosen
  rw [List.range_succ, List.filter_append]
  congr 1
  by_cases c : bs.getD k false = true
  · rw [if_pos c, List.filter_cons, if_pos c, List.filter_nil]
  · rw [if_neg c, List.filter_cons, if_neg c, List.filter_nil]
theorem drop_head {bs : List Bool} {k : Nat} {b : Bool} {t : List Bool} (h : bs.drop k = b :: t) : bs.getD k false = b ∧ bs.drop (k + 1) = t := by
  have e1 : (bs.drop k)[0]? = some b := by rw [h]; rfl
  have e2 : (bs.drop k).drop 1 = t := by rw [h]; rfl
  rw [List.getElem?_drop] at e1
  rw [List.drop_drop] at e2
  exact ⟨by rw [List.getD_eq_getElem?_getD, ← Nat.add_zero k, e1]; rfl, e2⟩
theorem chosen_length (bs : List Bool) (k : Nat) : (chosen bs k).length ≤ k := by
  have := List.length_filter_le (fun i => bs.getD i false) (List.range k)
  unfold chosen; rw [List.length_range] at this; exact this

/-- the table, its rows from j on -/
structure Tab (l : List Gd) (R : Nat) (W : World) (T j : Nat) (B : Nat → Nat) (wr : World) : Prop where
  t : wr.rowIs T 22 (l.length + 1) (fun k => if j ≤ k then .slice (some ⟨B k, 0, none⟩) (R + 1) (R + 1) else .slice none 0 0)
  rows : ∀ k, j ≤ k → k ≤ l.length → wr.rowIs (B k) 3 (R + 1) (fun q => .int .i64 (D l k q))
  place : ∀ k, j ≤ k → k ≤ l.length → W.heap.size ≤ B k ∧ B k ≠ T
  tw : W.heap.size ≤ T
  bel : Below W.heap.size W wr
theorem Tab.alloc {l : List Gd} {R : Nat} {W : World} {T j : Nat} {B : Nat → Nat} {wr : World} (h : Tab l R W T j B wr) (o : Obj) : Tab l R W T j B (wr.alloc o) :=
  ⟨h.t.alloc o, fun k h1 h2 => (h.rows k h1 h2).alloc o, h.place, h.tw, h.bel.alloc h.bel.size o⟩
theorem Tab.drewN {l : List Gd} {R : Nat} {W : World} {T j : Nat} {B : Nat → Nat} {wr : World} (h : Tab l R W T j B wr) (n : Nat) : Tab l R W T j B (wr.drewN n) :=
  ⟨h.t, h.rows, h.place, h.tw, drewN_below h.bel n⟩
theorem Tab.grown {l : List Gd} {R : Nat} {W : World} {T j : Nat} {B : Nat → Nat} {wr w2 : World} {row : Option Nat} (h : Tab l R W T j B wr) (g : wr.grownBy w2 row) (hr : ∀ k, row = some k → W.heap.size ≤ k ∧ k ≠ T ∧ ∀ i, j ≤ i → i ≤ l.length → k ≠ B i) : Tab l R W T j B w2 :=
  ⟨h.t.of_block (g.block T h.t.lt fun e => (hr T e.symm).2.1 rfl), fun k h1 h2 => (h.rows k h1 h2).of_block (g.block _ (h.rows k h1 h2).lt fun e => (hr _ e.symm).2.2 k h1 h2 rfl), h.place, h.tw, h.bel.grown g h.bel.size fun k e => (hr k e).1⟩
/-- the table and the row that is being filled -/
structure TabAt (l : List Gd) (R : Nat) (W : World) (T i : Nat) (B : Nat → Nat) (r : Nat) (wr : World) : Prop where
  t : wr.rowIs T 22 (l.length + 1) (fun k => if i ≤ k then .slice (some ⟨B k, 0, none⟩) (R + 1) (R + 1) else .slice none 0 0)
  rows : ∀ k, i < k → k ≤ l.length → wr.rowIs (B k) 3 (R + 1) (fun q => .int .i64 (D l k q)) ∧ B k ≠ B i
  row : wr.rowIs (B i) 3 (R + 1) (fun q => .int .i64 (if q < r then D l i q else 0))
  place : ∀ k, i ≤ k → k ≤ l.length → W.heap.size ≤ B k ∧ B k ≠ T
  tw : W.heap.size ≤ T
  bel : Below W.heap.size W wr
theorem TabAt.alloc {l : List Gd} {R : Nat} {W : World} {T i r : Nat} {B : Nat → Nat} {wr : World} (h : TabAt l R W T i B r wr) (o : Obj) : TabAt l R W T i B r (wr.alloc o) :=
  ⟨h.t.alloc o, fun k h1 h2 => ⟨(h.rows k h1 h2).1.alloc o, (h.rows k h1 h2).2⟩, h.row.alloc o, h.place, h.tw, h.bel.alloc h.bel.size o⟩
theorem TabAt.drewN {l : List Gd} {R : Nat} {W : World} {T i r : Nat} {B : Nat → Nat} {wr : World} (h : TabAt l R W T i B r wr) (n : Nat) : TabAt l R W T i B r (wr.drewN n) :=
  ⟨h.t, h.rows, h.row, h.place, h.tw, drewN_below h.bel n⟩
theorem TabAt.drew {l : List Gd} {R : Nat} {W : World} {T i r : Nat} {B : Nat → Nat} {wr : World} (h : TabAt l R W T i B r wr) : TabAt l R W T i B r wr.drew :=
  ⟨h.t, h.rows, h.row, h.place, h.tw, h.bel.drew⟩
/-- any value stored at r -/
structure TabMid (l : List Gd) (R : Nat) (W : World) (T i : Nat) (B : Nat → Nat) (r : Nat) (v : Int) (wr : World) : Prop where
  t : wr.rowIs T 22 (l.length + 1) (fun k => if i ≤ k then .slice (some ⟨B k, 0, none⟩) (R + 1) (R + 1) else .slice none 0 0)
  rows : ∀ k, i < k → k ≤ l.length → wr.rowIs (B k) 3 (R + 1) (fun q => .int .i64 (D l k q)) ∧ B k ≠ B i
  row : wr.rowIs (B i) 3 (R + 1) (fun q => .int .i64 (if q < r then D l i q else if q = r then v else 0))
  place : ∀ k, i ≤ k → k ≤ l.length → W.heap.size ≤ B k ∧ B k ≠ T
  tw : W.heap.size ≤ T
  bel : Below W.heap.size W wr
theorem TabAt.mid {l : List Gd} {R : Nat} {W : World} {T i r : Nat} {B : Nat → Nat} {wr : World} (h : TabAt l R W T i B r wr) (hi : i ≤ l.length) (v : Int) : TabMid l R W T i B r v (wr.setCell ⟨B i, r, none⟩ (.int .i64 v)) :=
  ⟨h.t.setOther (fun e => (h.place i (Nat.le_refl _) hi).2 e.symm) _, fun k h1 h2 => ⟨(h.rows k h1 h2).1.setOther (h.rows k h1 h2).2 _, (h.rows k h1 h2).2⟩, (h.row.set r (.int .i64 v)).congr (fun q _ => by
    by_cases e : q = r
    · subst e; simp
    · by_cases e2 : q < r <;> simp [e, e2]), h.place, h.tw, h.bel.setCell (p := ⟨B i, r, none⟩) (h.place i (Nat.le_refl _) hi).1 _⟩
theorem TabMid.mid {l : List Gd} {R : Nat} {W : World} {T i r : Nat} {B : Nat → Nat} {v : Int} {wr : World} (h : TabMid l R W T i B r v wr) (hi : i ≤ l.length) (u : Int) : TabMid l R W T i B r u (wr.setCell ⟨B i, r, none⟩ (.int .i64 u)) :=
  ⟨h.t.setOther (fun e => (h.place i (Nat.le_refl _) hi).2 e.symm) _, fun k h1 h2 => ⟨(h.rows k h1 h2).1.setOther (h.rows k h1 h2).2 _, (h.rows k h1 h2).2⟩, (h.row.set r (.int .i64 u)).congr (fun q _ => by
    by_cases e : q = r
    · subst e; simp
    · by_cases e2 : q < r <;> simp [e, e2]), h.place, h.tw, h.bel.setCell (p := ⟨B i, r, none⟩) (h.place i (Nat.le_refl _) hi).1 _⟩
theorem TabMid.alloc {l : List Gd} {R : Nat} {W : World} {T i r : Nat} {B : Nat → Nat} {v : Int} {wr : World} (h : TabMid l R W T i B r v wr) (o : Obj) : TabMid l R W T i B r v (wr.alloc o) :=
  ⟨h.t.alloc o, fun k h1 h2 => ⟨(h.rows k h1 h2).1.alloc o, (h.rows k h1 h2).2⟩, h.row.alloc o, h.place, h.tw, h.bel.alloc h.bel.size o⟩
theorem TabMid.drewN {l : List Gd} {R : Nat} {W : World} {T i r : Nat} {B : Nat → Nat} {v : Int} {wr : World} (h : TabMid l R W T i B r v wr) (n : Nat) : TabMid l R W T i B r v (wr.drewN n) :=
  ⟨h.t, h.rows, h.row, h.place, h.tw, drewN_below h.bel n⟩
theorem TabMid.drew {l : List Gd} {R : Nat} {W : World} {T i r : Nat} {B : Nat → Nat} {v : Int} {wr : World} (h : TabMid l R W T i B r v wr) : TabMid l R W T i B r v wr.drew :=
  ⟨h.t, h.rows, h.row, h.place, h.tw, h.bel.drew⟩
theorem TabMid.next {l : List Gd} {R : Nat} {W : World} {T i r : Nat} {B : Nat → Nat} {v : Int} {wr : World} (h : TabMid l R W T i B r v wr) (hv : v = D l i r) : TabAt l R W T i B (r + 1) wr :=
  ⟨h.t, h.rows, h.row.congr (fun q _ => by
    by_cases e2 : q < r
    · rw [if_pos e2, if_pos (by omega)]
    · by_cases e : q = r
      · rw [if_neg e2, if_pos e, if_pos (by omega), hv, e]
      · rw [if_neg e2, if_neg e, if_neg (by omega)]), h.place, h.tw, h.bel⟩
theorem TabAt.zero {l : List Gd} {R : Nat} {W : World} {T r : Nat} {B : Nat → Nat} {wr : World} (h : TabAt l R W T l.length B r wr) : TabAt l R W T l.length B (r + 1) wr :=
  ⟨h.t, h.rows, h.row.congr (fun q _ => by
    by_cases e2 : q < r
    · rw [if_pos e2, if_pos (by omega)]
    · rw [if_neg e2]
      by_cases e : q < r + 1
      · rw [if_pos e, D_last]
      · rw [if_neg e]), h.place, h.tw, h.bel⟩
theorem TabAt.full {l : List Gd} {R : Nat} {W : World} {T i : Nat} {B : Nat → Nat} {wr : World} (h : TabAt l R W T i B (R + 1) wr) : Tab l R W T i B wr :=
  ⟨h.t, fun k h1 h2 => by
    rcases Nat.lt_or_ge i k with c | c
    · exact (h.rows k c h2).1
    · obtain rfl : i = k := by omega
      exact h.row.congr (fun q hq => by rw [if_pos hq]), h.place, h.tw, h.bel⟩
/-- a new row -/
theorem Tab.row {l : List Gd} {R : Nat} {W : World} {T i : Nat} {B : Nat → Nat} {wr : World} (h : Tab l R W T (i + 1) B wr) (hi : i ≤ l.length) :
    TabAt l R W T i (fun k => if k = i then wr.heap.size else B k) 0 ((wr.setCell ⟨T, i, none⟩ (.slice (some ⟨wr.heap.size, 0, none⟩) (R + 1) (R + 1))).alloc (.cells (madeCells #[.int .i64 0] (R + 1)) 3)) := by
  have hT := h.t.lt
  have hsz := h.bel.size
  have hs2 : (wr.setCell ⟨T, i, none⟩ (.slice (some ⟨wr.heap.size, 0, none⟩) (R + 1) (R + 1))).heap.size = wr.heap.size := by simp [World.setCell]
  refine ⟨((h.t.set i _).alloc _).congr (fun k _ => ?_), fun k h1 h2 => ?_, ?_, fun k h1 h2 => ?_, h.tw, (h.bel.setCell (p := ⟨T, i, none⟩) h.tw _).alloc (by rw [hs2]; exact hsz) _⟩
  · by_cases e : k = i
    · subst e; simp
    · by_cases e2 : i + 1 ≤ k
      · rw [if_neg e, if_pos e2, if_pos (by omega), if_neg e]
      · rw [if_neg e, if_neg e2, if_neg (by omega)]
  · have e : k ≠ i := by omega
    have hk := h.rows k h1 h2
    rw [if_neg e, if_pos rfl]
    exact ⟨(hk.setOther (h.place k h1 h2).2 _).alloc _, by have := hk.lt; omega⟩
  · rw [if_pos rfl]
    have := World.rowIs_made (wr.setCell ⟨T, i, none⟩ (.slice (some ⟨wr.heap.size, 0, none⟩) (R + 1) (R + 1))) (.int .i64 0) (R + 1) 3
    rw [hs2] at this
    exact this.congr (fun q _ => by simp)
  · by_cases e : k = i
    · rw [if_pos e]; exact ⟨hsz, by omega⟩
    · rw [if_neg e]; exact h.place k (by omega) h2
end Go.Proofs.YtomgcfjdmoefgaaDoor
