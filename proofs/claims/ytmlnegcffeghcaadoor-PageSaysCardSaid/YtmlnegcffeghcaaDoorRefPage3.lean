/- WALKS: the document's Pages: what its rounds keep. -/
import Derived.Test.YtmlnegcffeghcaaDoorRefPage2
import Derived.Maps.AppendAt
namespace Go.Proofs.YtmlnegcffeghcaaDoor
open Go Go.RowKit PagePlain

/-- the bits of the first k asks -/
def bitL (l : List Int) (H : Nat → List Int) (k : Nat) : List Bool := (List.range k).map fun t => decide (pg l t ∉ H t)
theorem bitL_length (l : List Int) (H : Nat → List Int) (k : Nat) : (bitL l H k).length = k := by simp [bitL]
theorem bitL_succ (l : List Int) (H : Nat → List Int) (k : Nat) : bitL l H (k + 1) = bitL l H k ++ [decide (pg l k ∉ H k)] := by simp [bitL, List.range_succ]
theorem bitL_full (l : List Int) (H : Nat → List Int) : bitL l H l.length = missL l H := rfl

/-- what is told, and the pages at hand -/
structure PgRel (bits : List Bool) (r : List Int) (ao : Option Addr) (co : Nat) (ah : Option Addr) (ch : Nat) (w wr : World) : Prop where
  out : BOwn wr w.heap.size ao co bits
  hand : Own wr w.heap.size 3 ah ch r
  apart : ∀ x, (Value.slice ao bits.length co).ownBlock = some x → (Value.slice ah r.length ch).ownBlock ≠ some x
  bel : Below w.heap.size w wr
theorem PgRel.start (w : World) : PgRel [] [] none 0 none 0 w w := ⟨BOwn.nil _ _, Own.nil _ _ _, fun x h => by simp [Value.ownBlock] at h, Below.refl _ _⟩
theorem PgRel.drewN {bits : List Bool} {r : List Int} {ao : Option Addr} {co : Nat} {ah : Option Addr} {ch : Nat} {w wr : World} (h : PgRel bits r ao co ah ch w wr) (q : Nat) : PgRel bits r ao co ah ch w (wr.drewN q) :=
  ⟨h.out, h.hand, h.apart, drewN_below h.bel q⟩
theorem grown_keep {W w4 : World} {o : Obj} {own : Option Nat} {b : Nat} (gr : (W.alloc o).grownBy w4 own) (h : b < W.heap.size) (hn : own ≠ some b) : w4.heap[b]? = W.heap[b]? := by
  have h2 := gr.block b (by simp; omega) (fun e => hn e.symm)
  rw [h2]
  exact Below.heap_alloc W o b h
/-- one bit more -/
theorem PgRel.bit {bits : List Bool} {r : List Int} {ao : Option Addr} {co : Nat} {ah : Option Addr} {ch : Nat} {w wr : World} (R : PgRel bits r ao co ah ch w wr) (b : Bool) (n : Nat) (hn : n = bits.length)
    (v2 : Value) (w4 : World) (own2 : w4.ownsRow w.heap.size 4 1 v2 (n + 1) (bits.map Value.bool ++ [.bool b])) (gr2 : (wr.alloc (.cells #[.bool b] 4)).grownBy w4 (Value.slice ao n co).ownBlock)
    (at2 : v2.ownBlock = (Value.slice ao n co).ownBlock ∨ v2.ownBlock = some (wr.alloc (.cells #[.bool b] 4)).heap.size) :
    ∃ a3 c3, v2 = .slice a3 (n + 1) c3 ∧ PgRel (bits ++ [b]) r a3 c3 ah ch w w4 := by
  subst hn
  obtain ⟨a3, c3, rfl, h1, h2⟩ := bool_post bits w.heap.size b ao co wr R.bel.size R.out v2 w4 own2 gr2
  refine ⟨a3, c3, by simp, h1, R.hand.same fun k hk => grown_keep gr2 (R.hand.lt k hk).2 fun e => R.apart k e hk, fun x hx hy => ?_, R.bel.trans h2⟩
  have hxl := (R.hand.lt x hy).2
  rw [List.length_append] at hx
  rcases at2 with e | e
  · refine R.apart x ?_ hy
    rw [← e]; simpa using hx
  · rw [show (bits ++ [b]).length = bits.length + 1 by simp] at e
    rw [show bits.length + [b].length = bits.length + 1 by simp] at hx
    rw [hx] at e
    have : x = wr.heap.size + 1 := by simpa using e
    omega
/-- one page more -/
theorem PgRel.page {bits : List Bool} {r : List Int} {ao : Option Addr} {co : Nat} {ah : Option Addr} {ch : Nat} {w wr : World} (R : PgRel bits r ao co ah ch w wr) (p : Int)
    (v2 : Value) (w4 : World) (own2 : w4.ownsRow w.heap.size 3 1 v2 (r.length + 1) (r.map (Value.int .i64) ++ [.int .i64 p])) (gr2 : (wr.alloc (.cells #[.int .i64 p] 3)).grownBy w4 (Value.slice ah r.length ch).ownBlock)
    (at2 : v2.ownBlock = (Value.slice ah r.length ch).ownBlock ∨ v2.ownBlock = some (wr.alloc (.cells #[.int .i64 p] 3)).heap.size) :
    ∃ a3 c3, v2 = .slice a3 (r.length + 1) c3 ∧ PgRel bits (r ++ [p]) ao co a3 c3 w w4 := by
  obtain ⟨a3, c3, rfl, h1, h2⟩ := page_post r w.heap.size p ah ch wr R.bel.size R.hand v2 w4 own2 gr2
  refine ⟨a3, c3, by simp, R.out.same fun k hk => grown_keep gr2 (R.out.lt k hk).2 fun e => R.apart k hk e, h1, fun x hx hy => ?_, R.bel.trans h2⟩
  have hxl := (R.out.lt x hx).2
  rw [List.length_append] at hy
  rcases at2 with e | e
  · refine R.apart x hx ?_
    rw [← e]; simpa using hy
  · rw [show (r ++ [p]).length = r.length + 1 by simp] at e
    rw [show r.length + [p].length = r.length + 1 by simp] at hy
    rw [hy] at e
    have : x = wr.heap.size + 1 := by simpa using e
    omega
/-- another row at hand -/
theorem PgRel.fresh {bits : List Bool} {r r' : List Int} {ao a' : Option Addr} {co c' : Nat} {ah : Option Addr} {ch : Nat} {w wr w4 : World} (R : PgRel bits r ao co ah ch w wr) (h : Own w4 wr.heap.size 3 a' c' r') (hb : Below wr.heap.size wr w4) :
    PgRel bits r' ao co a' c' w w4 :=
  ⟨R.out.below hb, h.mono R.bel.size, fun x hx hy => by have := (R.out.lt x hx).2; have := (h.lt x hy).1; omega, R.bel.trans (hb.mono R.bel.size)⟩
theorem PgRel.cellsO {bits : List Bool} {r : List Int} {ao : Option Addr} {co : Nat} {ah : Option Addr} {ch : Nat} {w wr : World} (h : PgRel bits r ao co ah ch w wr) (n : Nat) (hn : n = bits.length) : wr.ownsRow w.heap.size 4 1 (.slice ao n co) n (bits.map Value.bool) := by
  subst hn; exact h.out
/-- the cells of a stretch of a row -/
theorem Own.from {w : World} {B g cap : Nat} {l : List Int} (h : Own w B 3 (some ⟨g, 0, none⟩) cap l) (n m : Nat) (hnm : n + m ≤ l.length) : ∀ j u, (((l.drop n).take m).map (Value.int .i64))[j]? = some u → w.cell? ((⟨g, n, none⟩ : Addr).add j) = some u := by
  intro j u hu
  by_cases h0 : 0 < l.length
  · obtain ⟨g', e, _, _, hc, _⟩ := h.open h0
    obtain rfl : g = g' := by simpa using e
    have hlen : (((l.drop n).take m).map (Value.int .i64)).length = m := by rw [List.length_map, List.length_take, List.length_drop]; omega
    have hj : j < m := by
      rcases Nat.lt_or_ge j m with c | c
      · exact c
      · rw [List.getElem?_eq_none (by omega)] at hu; cases hu
    rw [List.getElem?_map, List.getElem?_take_of_lt hj, List.getElem?_drop, List.getElem?_eq_getElem (show n + j < l.length by omega)] at hu
    simp only [Option.map_some, Option.some.injEq] at hu
    have e3 : (⟨g, n, none⟩ : Addr).add j = ⟨g, n + j, none⟩ := by unfold Addr.add; split <;> simp_all
    rw [e3, hc (n + j) (by omega), List.getD_eq_getElem?_getD, List.getElem?_eq_getElem (show n + j < l.length by omega), ← hu]; rfl
  · have : l = [] := List.eq_nil_of_length_eq_zero (by omega)
    subst this
    simp at hu
theorem Own.room {w : World} {B g cap : Nat} {l : List Int} (h : Own w B 3 (some ⟨g, 0, none⟩) cap l) : l.length ≤ cap ∧ cap ≤ maxLen := by
  rcases h.2 with ⟨h', _⟩ | ⟨g', cap', cur, h', _, _, hc, hm, _⟩
  · simp at h'
  · simp only [Value.slice.injEq, true_and] at h'
    obtain ⟨-, rfl⟩ := h'
    exact ⟨hc, hm⟩
theorem grown_belowI {w w' : World} {r : Option Nat} {B : Nat} (h : w.grownBy w' r) (hB : B ≤ w.heap.size) (hr : ∀ k, r = some k → B ≤ k) : Below B w w' :=
  ⟨h.os, h.tape, h.output, h.size, fun k hk => h.block k (by omega) fun e => by have := hr k e.symm; omega⟩
theorem rest_post {l : List Int} {k : Nat} {w w1 w2 : World} {v1 v2 : Value} (hk : k < l.length) (o1 : w1.ownsRow w.heap.size 3 1 v1 (0 + k) ([] ++ (l.take k).map (Value.int .i64))) (g1 : w.grownBy w1 (Value.slice none 0 0).ownBlock)
    (o2 : w2.ownsRow w.heap.size 3 1 v2 (0 + k + (l.length - (k + 1))) ([] ++ (l.take k).map (Value.int .i64) ++ ((l.drop (k + 1)).take (l.length - (k + 1))).map (Value.int .i64))) (g2 : w1.grownBy w2 v1.ownBlock) :
    ∃ a' c', v2 = .slice a' (l.eraseIdx k).length c' ∧ Own w2 w.heap.size 3 a' c' (l.eraseIdx k) ∧ Below w.heap.size w w2 := by
  rw [show (l.drop (k + 1)).take (l.length - (k + 1)) = l.drop (k + 1) from List.take_of_length_le (by rw [List.length_drop]; exact Nat.le_refl _), List.nil_append, ← List.map_append, ← List.eraseIdx_eq_take_drop_succ] at o2
  obtain ⟨a', c', rfl, h⟩ := Own.of o2
  exact ⟨a', c', rfl, h, (grown_belowI g1 (Nat.le_refl _) (fun k hk => by simp [Value.ownBlock] at hk)).trans (grown_belowI g2 g1.size (fun j hj => (World.ownsRow.lt o1 j hj).1))⟩
theorem one_cellsI (l : List Int) : ∀ u ∈ l.map (Value.int .i64), u.oneCell' = true := by
  intro u hu
  obtain ⟨x, _, rfl⟩ := List.mem_map.1 hu
  rfl
/-- what Pages tells -/
def PagesPost (f : Nat) (l : List Int) (v : Nat → List Int → Nat) (w : World) (e : Ending) (w' : World) : Prop := ∃ a cap, e = .returned (.slice a l.length cap) ∧ BOwn w' w.heap.size a cap (missL l (rhd f l v)) ∧ Below w.heap.size w w'
end Go.Proofs.YtmlnegcffeghcaaDoor
