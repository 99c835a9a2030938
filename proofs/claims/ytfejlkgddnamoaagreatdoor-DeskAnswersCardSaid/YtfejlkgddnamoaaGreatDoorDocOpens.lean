/- PLAIN LAW: the document goes through a text byte by byte (no program in sight). WALK: the document's Open. -/
import Derived.Test.YtfejlkgddnamoaaGreatDoorBkTexts
import Derived.Test.YtfejlkgddnamoaaGreatDoorBkOpen
import Derived.Test.YtfejlkgddnamoaaGreatDoorDocLine
import Derived.Deep.RegionWith
set_option linter.unusedVariables false
set_option linter.unusedSimpArgs false
section
namespace Go.Proofs.YtfejlkgddnamoaaGreatDoor
open Go Go.RowKit SimPlain BookPlain NumPlain SpPlain LinesPlain

/-- behind i bytes: whole lines up to f, all done -/
structure Scan (s : List UInt8) (i f n : Nat) (st : St) : Prop where
  le : f ≤ i
  no : (10 : UInt8) ∉ (s.take i).drop f
  rest : ∀ r, openP st (linesOf (s.drop f)) = r → openP st0 (linesOf s) = (r.1, n + r.2.1, r.2.2)
  txt : st.T.length ≤ 100 * n
  cnt : n ≤ f
theorem Scan.start (s : List UInt8) : Scan s 0 0 0 st0 := ⟨Nat.le_refl _, by simp, fun r h => by rw [List.drop_zero] at h; rw [h]; simp, by show (0 : Nat) ≤ _; omega, Nat.le_refl _⟩
theorem Scan.on {s : List UInt8} {i f n : Nat} {st : St} (h : Scan s i f n st) (hi : i < s.length) (h10 : s.getD i 0 ≠ 10) : Scan s (i + 1) f n st := by
  refine ⟨Nat.le_succ_of_le h.le, ?_, h.rest, h.txt, h.cnt⟩
  rw [List.take_add_one, List.getElem?_eq_getElem hi, List.drop_append_of_le_length (by rw [List.length_take]; have := h.le; omega)]
  rw [List.getD_eq_getElem?_getD, List.getElem?_eq_getElem hi] at h10
  intro m
  rcases List.mem_append.1 m with m | m
  · exact h.no m
  · rw [Option.toList_some, List.mem_singleton] at m
    exact h10 m.symm
theorem Scan.cut {s : List UInt8} {i f n : Nat} {st : St} (h : Scan s i f n st) (hi : i < s.length) (h10 : s.getD i 0 = 10) : linesOf (s.drop f) = ((s.take i).drop f ++ [10]) :: linesOf (s.drop (i + 1)) := by
  have e : s.drop f = (s.take i).drop f ++ 10 :: s.drop (i + 1) := by
    conv => lhs; rw [← List.take_append_drop i s]
    rw [List.drop_append_of_le_length (by rw [List.length_take]; have := h.le; omega), List.drop_eq_getElem_cons hi]
    congr 2
    rw [List.getD_eq_getElem?_getD, List.getElem?_eq_getElem hi] at h10
    exact h10
  rw [e, linesOf_end _ _ h.no]
/-- a line that is wrong -/
theorem Scan.bad {s : List UInt8} {i f n : Nat} {st : St} (h : Scan s i f n st) (hi : i < s.length) (h10 : s.getD i 0 = 10) (hc : (lineP st ((s.take i).drop f)).2 ≠ 0) :
    openP st0 (linesOf s) = ((lineP st ((s.take i).drop f)).1, n + 1, (lineP st ((s.take i).drop f)).2) := by
  have e := h.cut hi h10
  refine h.rest ((lineP st ((s.take i).drop f)).1, 1, (lineP st ((s.take i).drop f)).2) ?_
  rw [e, openP, suffix_end, trim_end, if_pos rfl, if_neg hc]
theorem line_txt (st : St) (x : List UInt8) : (lineP st x).1.T.length ≤ st.T.length + 90 := by
  have hpop : (popS st).1.T.length ≤ st.T.length + 90 := by
    obtain ⟨q, seq, T⟩ := st
    cases q with
    | nil => exact Nat.le_add_right _ _
    | cons y q =>
      have := lineB_len popB (by decide)
      show (T ++ lineB popB).length ≤ T.length + 90
      rw [List.length_append]; omega
  have hpush : ∀ k i, (pushS st ⟨k, i, 0⟩).T.length ≤ st.T.length + 90 := fun k i => by
    unfold pushS
    by_cases hok : okE ⟨k, i, 0⟩ = true
    · rw [if_pos hok]
      by_cases h60 : st.q.length < 60
      · rw [if_pos h60]
        obtain ⟨t0, t1, d0, d1⟩ := okE_of hok
        have := lineB_len (pushB k i) (pushB_len k i t0 t1 d0 d1)
        show (st.T ++ lineB (pushB k i)).length ≤ _
        rw [List.length_append]; omega
      · rw [if_neg h60]; omega
    · rw [if_neg hok]; omega
  unfold lineP
  cases lastSp x with
  | none => show st.T.length ≤ _; omega
  | some m =>
    simp only
    cases numP (x.drop (m + 1)) with
    | none => show st.T.length ≤ _; omega
    | some v =>
      simp only
      by_cases hv : v = (sumB (x.take m) : Nat)
      · rw [if_pos hv]
        unfold wordsP
        split
        · exact hpop
        · split
          · split
            · exact hpush _ _
            · show st.T.length ≤ _; omega
          · show st.T.length ≤ _; omega
      · rw [if_neg hv]; show st.T.length ≤ _; omega
theorem Scan.good {s : List UInt8} {i f n : Nat} {st : St} (h : Scan s i f n st) (hi : i < s.length) (h10 : s.getD i 0 = 10) (hc : (lineP st ((s.take i).drop f)).2 = 0) :
    Scan s (i + 1) (i + 1) (n + 1) (lineP st ((s.take i).drop f)).1 := by
  have e := h.cut hi h10
  refine ⟨Nat.le_refl _, ?_, fun r hr => ?_, ?_, by have := h.cnt; have := h.le; omega⟩
  · rw [List.drop_eq_nil_of_le (by rw [List.length_take]; omega)]; simp
  · have h2 := h.rest (r.1, r.2.1 + 1, r.2.2) (by rw [e, openP, suffix_end, trim_end, if_pos rfl, if_pos hc, hr])
    rw [h2]
    simp only [Prod.mk.injEq, true_and, and_true]
    omega
  · have := line_txt st ((s.take i).drop f)
    have := h.txt
    omega
theorem Scan.done {s : List UInt8} {f n : Nat} {st : St} (h : Scan s s.length f n st) : openP st0 (linesOf s) = (st, n, 0) := by
  have hno := h.no
  rw [List.take_length] at hno
  refine h.rest (st, 0, 0) ?_
  by_cases h0 : s.drop f = []
  · rw [h0, linesOf_nil]; rfl
  · rw [linesOf_no _ hno h0, openP, suffix_no hno]
    rfl
end Go.Proofs.YtfejlkgddnamoaaGreatDoor
end

section
namespace Go.Proofs.YtfejlkgddnamoaaGreatDoor
open Go Go.RowKit SimPlain HeapPlain BookPlain NumPlain SpPlain LinesPlain

theorem results_cellrow_tmp2 {P : Program} {fn : Func} {p u v : Tmp} {ty : TypeId} (h : fn.results = #[.cell p ty, .tmp u, .tmp v]) (tmps : Array Value) (w : World) (g : Nat) (t : TypeId) (cs : Array Value) (fr : Nat × Nat) (d : TypeDesc)
    (hp : tmps.getD p undef = .pointer (some ⟨g, 0, none⟩)) (hg : w.heap[g]? = some (.cells cs t fr))
    (hu : P.underlying ty = some d) (hd : (match d with | .struct _ | .array _ _ => true | _ => false) = true) (hi : (P.info? ty).map (·.size) = some cs.size) :
    (results fn tmps).run P w = .ok (.tuple #[.agg cs, tmps.getD u undef, tmps.getD v undef]) w := by
  simp only [results, h]
  simp only [Array.getD_eq_getD_getElem?] at hp ⊢
  simp [hp, asAddr, run_loadVar_row w g t ty cs fr d hg hu hd hi]
/-- what the document's Open tells -/
def DOpenRes (s : List UInt8) (w : World) (e : Ending) (w' : World) : Prop :=
  Below w.heap.size w w' ∧ (((openP st0 (linesOf s)).2.2 = 0 ∧ ∃ a c l, e = .returned (.tuple #[docV (openP st0 (linesOf s)).1 a c l, .int .i64 (openP st0 (linesOf s)).2.1, .int .i64 0]) ∧ DocS w' (openP st0 (linesOf s)).1 a c l) ∨
    ((openP st0 (linesOf s)).2.2 ≠ 0 ∧ e = .returned (.tuple #[.agg #[.slice none 0 0, .string ⟨#[]⟩], .int .i64 (openP st0 (linesOf s)).2.1, .int .i64 (openP st0 (linesOf s)).2.2])))
/-- between two bytes -/
structure DocI (s : List UInt8) (n0 : Nat) (w : World) (i f m : Nat) (st : St) (a : Option Addr) (c n : Nat) (X : ByteArray) (l : List Ev) (W : World) : Prop where
  scan : Scan s i f m st
  doc : DocS W st a c l
  hv : docV st a c l = .agg #[.slice a n c, .string X]
  r0 : W.heap[n0]? = some (.cells #[.slice none 0 0, .string ⟨#[]⟩] 78 (0, 0))
  r1 : W.heap[n0 + 1]? = some (.cells #[.slice a n c, .string X] 78 (0, 0))
  low : Below n0 w W
theorem doc_hv (st : St) (a : Option Addr) (c : Nat) (l : List Ev) : ∃ n X, docV st a c l = .agg #[.slice a n c, .string X] := ⟨_, _, rfl⟩
theorem doc_box {W w4 : World} {o : Obj} (h : Below (W.alloc o).drew.heap.size (W.alloc o).drew w4) : w4.heap[W.heap.size]? = some o := (h.block _ (by show W.heap.size < (W.alloc o).heap.size; simp)).trans (heap_alloc_new W o)
/-- behind a line: what it told lies in a box of its own -/
structure DocF (w wr w4 : World) (st : St) (a : Option Addr) (c : Nat) (l : List Ev) (p : Nat) (cs : Array Value) (V : World) : Prop where
  hp : wr.heap.size ≤ p
  box : V.heap[p]? = some (.cells cs 78 (0, 0))
  low : Below wr.heap.size wr V
  doc : DocS V st a c l
theorem doc_f1 {w wr w4 : World} {st : St} {a : Option Addr} {c : Nat} {l : List Ev} {cs : Array Value} (hb : Below wr.heap.size wr w4) (h : DocS w4 st a c l) : DocF w wr w4 st a c l w4.heap.size cs (w4.alloc (.cells cs 78)) :=
  ⟨hb.size, heap_alloc_new _ _, hb.alloc hb.size _, h.below ((Below.refl _ w4).alloc (Nat.le_refl _) _)⟩
theorem doc_f2 {w wr w4 : World} {st : St} {a : Option Addr} {c : Nat} {l : List Ev} {cs : Array Value} {v0 v1 : Value} (hz : w4.heap[wr.heap.size]? = some (.cells cs 78 (0, 0))) (hb : Below wr.heap.size wr w4) (h : DocS w4 st a c l) :
    DocF w wr w4 st a c l wr.heap.size ((cs.setIfInBounds 0 v0).setIfInBounds 1 v1) ((w4.setCell ⟨wr.heap.size, 0, none⟩ v0).setCell ⟨wr.heap.size, 1, none⟩ v1) := by
  have o : Only w4 ((w4.setCell ⟨wr.heap.size, 0, none⟩ v0).setCell ⟨wr.heap.size, 1, none⟩ v1) (fun j => j = wr.heap.size) :=
    (Only.setCell w4 ⟨wr.heap.size, 0, none⟩ v0 (fun j => j = wr.heap.size) rfl).trans (Only.setCell _ ⟨wr.heap.size, 1, none⟩ v1 (fun j => j = wr.heap.size) rfl) (fun _ _ c => c)
  exact ⟨Nat.le_refl _, heap_setCell_same _ _ _ _ _ _ (heap_setCell_same _ _ _ _ _ _ hz), hb.trans (o.below hb.size (fun k c => by omega)), h.book hz o⟩
theorem doc_next {s : List UInt8} {w wr w4 : World} {i m : Nat} {st : St} {a4 : Option Addr} {c4 n4 : Nat} {X4 : ByteArray} {l4 : List Ev} {p : Nat} {cs : Array Value} {V : World} (h : DocF w wr w4 st a4 c4 l4 p cs V)
    (x0 : V.heap[w.heap.size]? = some (.cells #[.slice none 0 0, .string ⟨#[]⟩] 78 (0, 0))) {a : Option Addr} {n c : Nat} {X : ByteArray} (x1 : V.heap[w.heap.size + 1]? = some (.cells #[.slice a n c, .string X] 78 (0, 0)))
    (low : Below w.heap.size w V) (hs : Scan s (i + 1) (i + 1) (m + 1) st) (hv : docV st a4 c4 l4 = .agg #[.slice a4 n4 c4, .string X4]) (V' : World) (hV : V' = (V.setCell ⟨w.heap.size + 1, 0, none⟩ (.slice a4 n4 c4)).setCell ⟨w.heap.size + 1, 1, none⟩ (.string X4)) :
    DocI s w.heap.size w (i + 1) (i + 1) (m + 1) st a4 c4 n4 X4 l4 V' := by
  have o : Only V V' (fun j => j = w.heap.size + 1) := by
    rw [hV]
    exact (Only.setCell V ⟨w.heap.size + 1, 0, none⟩ _ (fun j => j = w.heap.size + 1) rfl).trans (Only.setCell _ ⟨w.heap.size + 1, 1, none⟩ _ (fun j => j = w.heap.size + 1) rfl) (fun _ _ c => c)
  refine ⟨hs, h.doc.book x1 o, hv, (o.block _ (lt_of_block x0) (by omega)).trans x0, ?_, low.trans (o.below low.size (fun k c => by omega))⟩
  rw [hV]; exact heap_setCell_same _ _ _ _ _ _ (heap_setCell_same _ _ _ _ _ _ x1)
theorem doc_stop {s : List UInt8} {w V : World} {r : St} {m : Nat} {code code' : Int} (low : Below w.heap.size w V) (h : openP st0 (linesOf s) = (r, m + 1, code')) (hc : code = code') (h0 : code ≠ 0) (v0 v1 : Value) (V' : World) (hV : V' = (V.setCell ⟨w.heap.size, 0, none⟩ v0).setCell ⟨w.heap.size, 1, none⟩ v1) (e : Ending) (he : e = .returned (.tuple #[.agg #[.slice none 0 0, .string ⟨#[]⟩], .int .i64 ((m : Int) + 1), .int .i64 code])) : DOpenRes s w e V' := by
  refine ⟨by rw [hV]; exact (low.setCell (Nat.le_refl _) v0).setCell (Nat.le_refl _) v1, .inr ⟨by rw [h, ← hc]; exact h0, ?_⟩⟩
  rw [he, h, hc]
  simp
theorem doc_done {s : List UInt8} {w wr : World} {f m : Nat} {st : St} {a : Option Addr} {c n : Nat} {X : ByteArray} {l : List Ev} (h : DocI s w.heap.size w s.length f m st a c n X l wr) (V' : World) (hV : V' = (wr.setCell ⟨w.heap.size, 0, none⟩ (.slice a n c)).setCell ⟨w.heap.size, 1, none⟩ (.string X)) (e : Ending) (he : e = .returned (.tuple #[.agg #[.slice a n c, .string X], .int .i64 m, .int .i64 0])) : DOpenRes s w e V' := by
  have o : Only wr V' (fun j => j = w.heap.size) := by
    rw [hV]
    exact (Only.setCell wr ⟨w.heap.size, 0, none⟩ _ (fun j => j = w.heap.size) rfl).trans (Only.setCell _ ⟨w.heap.size, 1, none⟩ _ (fun j => j = w.heap.size) rfl) (fun _ _ c => c)
  have hd := h.scan.done
  refine ⟨h.low.trans (o.below h.low.size (fun k c => by omega)), .inl ⟨by rw [hd], a, c, l, ?_, ?_⟩⟩
  · rw [he, hd, h.hv]
  · rw [hd]; exact h.doc.book h.r0 o
set_option maxRecDepth 100000 in
set_option maxHeartbeats 4000000 in
theorem DOpen_any (s : List UInt8) (w : World) (hs : s.length ≤ 1100000) :
    Calls Tryz.prog 62 #[.string ⟨s.toArray⟩] w fun e w' => DOpenRes s w e w' := by
  obtain ⟨Y, hY⟩ : ∃ Y : ByteArray, Y = ⟨s.toArray⟩ := ⟨_, rfl⟩
  have hYs : Y.size = s.length := by rw [hY]; simp [ByteArray.size]
  have hYd : Y.data.toList = s := by rw [hY]
  have hsz : Y.size ≤ 1100000 := by omega
  rw [← hY]
  have HGet : Hid (∀ j (hj : j < Y.size), Y[j]'hj = s.getD j 0) := Lib.hid fun j hj => by
    subst hY
    rw [List.getD_eq_getElem?_getD, List.getElem?_eq_getElem (by omega)]
    rfl
  have HYs := Lib.hid hYs
  have HCut : Hid (∀ f i, i ≤ s.length → Y.extract f i = ⟨((s.take i).drop f).toArray⟩) := Lib.hid fun f i hi => by
    apply ByteArray.ext
    apply Array.toList_inj.1
    rw [Lib.extract_data, hYd]
    simp only []
    rw [List.drop_take]
  obtain ⟨W0, hW0⟩ : ∃ W0, W0 = (w.alloc (.cells #[.slice none 0 0, .string ⟨#[]⟩] 78)).alloc (.cells #[.slice none 0 0, .string ⟨#[]⟩] 78) := ⟨_, rfl⟩
  have hb0 : W0.heap[w.heap.size]? = some (.cells #[.slice none 0 0, .string ⟨#[]⟩] 78 (0, 0)) := by
    rw [hW0, Below.heap_alloc _ _ _ (by simp)]; exact heap_alloc_new _ _
  have hb1 : W0.heap[w.heap.size + 1]? = some (.cells #[.slice none 0 0, .string ⟨#[]⟩] 78 (0, 0)) := by
    have h := heap_alloc_new (w.alloc (.cells #[.slice none 0 0, .string ⟨#[]⟩] 78)) (.cells #[.slice none 0 0, .string ⟨#[]⟩] 78)
    rw [World.size_alloc] at h
    rw [hW0]; exact h
  have low : Below w.heap.size w W0 := by rw [hW0]; exact ((Below.refl _ w).alloc (Nat.le_refl _) _).alloc (by simp) _
  have H0 : Hid (DocI s w.heap.size w 0 0 0 st0 none 0 0 ⟨#[]⟩ [] W0) := Lib.hid ⟨Scan.start s, ⟨⟨0, EtOwn.nil _ _⟩, Two.zero, fun _ => ⟨rfl, rfl⟩, by simp, by show (0 : Nat) ≤ _; omega⟩, rfl, hb0, hb1, low⟩
  clear hY hYs hYd hs hb0 hb1 low
  go_enter Tryz.func62, Tryz.ntmps62
  go_wp2
  rw [← hW0]
  clear hW0
  go_loopw [6, 7, 8] (fun mv fv iv wr => ∃ (i f m : Nat) (st : St) (a : Option Addr) (c n : Nat) (X : ByteArray) (l : List Ev), mv = .int .i64 m ∧ fv = .int .i64 f ∧ iv = .int .i64 i ∧ i ≤ Y.size ∧ f ≤ i ∧ m ≤ f ∧ DocI s w.heap.size w i f m st a c n X l wr) (fun _ _ iv _ => Y.size - (intOf iv).toNat)
  case atStart => exact ⟨0, 0, 0, st0, none, 0, 0, ⟨#[]⟩, [], rfl, rfl, rfl, Nat.zero_le _, Nat.le_refl _, Nat.le_refl _, H0.out⟩
  case round =>
    obtain ⟨i, f, m, st, a, c, n, X, l, rfl, rfl, rfl, hi, hf, hm, hI⟩ := hrel
    have HI := Lib.hid hI
    have x0 := hI.r0
    have x1 := hI.r1
    clear hI
    rcases Nat.lt_or_ge i Y.size with hlt | hge
    · by_cases h10 : s.getD i 0 = 10
      · have hb : ((((Y[i]'hlt).toNat : Nat) : Int) == 10) = true := by rw [HGet.out i hlt, h10]; rfl
        have hltI : (i : Int) < (Y.size : Int) := by omega
        have hfI : (f : Int) ≤ (i : Int) := by omega
        have hils : i < s.length := by rw [← HYs.out]; exact hlt
        obtain ⟨t, ht⟩ : ∃ t, t = (s.take i).drop f := ⟨_, rfl⟩
        have htl : t.length ≤ 2000000 := by rw [ht, List.length_drop, List.length_take]; omega
        have hsc := HI.out.scan
        have hT : st.T.length ≤ 140000000 := by have := hsc.txt; omega
        have hline := fun W (b : Below wr.heap.size wr W) => rline_any st a c l W (HI.out.doc.below b) hT t htl
        rw [HI.out.hv, ht, ← HCut.out f i (by omega), ← ht] at hline
        have HLine := Lib.hid hline
        have HBad : Hid ((lineP st t).2 ≠ 0 → openP st0 (linesOf s) = ((lineP st t).1, m + 1, (lineP st t).2)) := Lib.hid (by rw [ht]; exact hsc.bad hils h10)
        have HGood : Hid ((lineP st t).2 = 0 → Scan s (i + 1) (i + 1) (m + 1) (lineP st t).1) := Lib.hid (by rw [ht]; exact hsc.good hils h10)
        have c0 : wr.cell? ⟨w.heap.size + 1, 0, none⟩ = some (.slice a n c) := by simp [World.cell?, x1]
        have c1 : wr.cell? ⟨w.heap.size + 1, 1, none⟩ = some (.string X) := by simp [World.cell?, x1]
        have X0 := Lib.hid x0
        have X1 := Lib.hid x1
        have x1a : (wr.alloc (.cells #[.slice none 0 0, .string ⟨#[]⟩] 78)).drew.heap[w.heap.size + 1]? = some (.cells #[.slice a n c, .string X] 78 (0, 0)) := by
          show (wr.alloc (.cells #[.slice none 0 0, .string ⟨#[]⟩] 78)).heap[w.heap.size + 1]? = _
          rw [Below.heap_alloc _ _ _ (lt_of_block x1)]; exact x1
        have c0a : (wr.alloc (.cells #[.slice none 0 0, .string ⟨#[]⟩] 78)).drew.cell? ⟨w.heap.size + 1, 0, none⟩ = some (.slice a n c) := by unfold World.cell?; rw [x1a]; rfl
        have c1a : (wr.alloc (.cells #[.slice none 0 0, .string ⟨#[]⟩] 78)).drew.cell? ⟨w.heap.size + 1, 1, none⟩ = some (.string X) := by unfold World.cell?; rw [x1a]; rfl
        have hfY : f ≤ Y.size := by omega
        clear hline hsc hT x0 x1 x1a htl h10 ht hils
        go_wp2_with fail
        refine wp_region_any (by kernel_rfl) ?_
        try (change wpAny _ _ _ _ _ _ _ (World.drew _))
        refine wpAny_take (i := 1) (v := ?_) rfl (by kernel_rfl) (by kernel_rfl) (by kernel_rfl) (fun _ _ _ h => h) (Or.inl ⟨by kernel_rfl, ?_⟩) ?_
        rotate_left
        · (intro w; go_simp; try with_reducible rfl)
        refine wpAny_take (i := 2) (v := ?_) rfl (by kernel_rfl) (by kernel_rfl) (by kernel_rfl) (fun _ _ _ h => h) (Or.inl ⟨by kernel_rfl, ?_⟩) ?_
        rotate_left
        · (intro w; go_simp; try with_reducible rfl)
        refine wpAny_take (i := 3) (v := ?_) rfl (by kernel_rfl) (by kernel_rfl) (by kernel_rfl) (fun _ _ _ h => h) (Or.inl ⟨by kernel_rfl, ?_⟩) ?_
        rotate_left
        · (intro w; go_simp; try with_reducible rfl)
        refine wpAny_take (i := 4) (v := ?_) rfl (by kernel_rfl) (by kernel_rfl) (by kernel_rfl) (fun _ _ _ h => h) (Or.inl ⟨by kernel_rfl, ?_⟩) ?_
        rotate_left
        · (intro w; go_simp; try with_reducible rfl)
        refine wpAny_ready (rs := [0, 9]) (by kernel_rfl) (by simp) ?_
        refine AllReady.cons rfl (fun K hK => ?_) (AllReady.cons rfl (fun K hK => ?_) (AllReady.nil))
        · go_simp
          refine hK _ _ ?_
          clear hK K
          refine wpAny_ready (rs := [5, 9]) (by kernel_rfl) (by simp) ?_
          refine AllReady.cons rfl (fun K hK => ?_) (AllReady.cons rfl (fun K hK => ?_) (AllReady.nil))
          ·
            go_simp
            go_at_call 86
            refine (HLine.out _ (below_drewN (Below.refl _ _) 1)).mono ?_
            rintro e w4 ⟨⟨a4, c4, l4, rfl, hD4⟩, hb4⟩
            obtain ⟨n4, X4, hdv4⟩ := doc_hv (lineP st t).1 a4 c4 l4
            obtain ⟨code, hcode⟩ : ∃ x, x = (lineP st t).2 := ⟨_, rfl⟩
            rw [hdv4, ← hcode]
            have HD4 := Lib.hid hD4
            have HB4 : Hid (Below wr.heap.size wr w4) := Lib.hid ((below_drewN (Below.refl _ _) 1).trans hb4)
            have HDv4 := Lib.hid hdv4
            have HCode := Lib.hid hcode
            clear hD4 hb4 hdv4 hcode
            go_wp2_with fail
            refine wpAny_take (i := 6) (v := ?_) rfl (by kernel_rfl) (by kernel_rfl) (by kernel_rfl) (fun _ _ _ h => h) (Or.inl ⟨by kernel_rfl, ?_⟩) ?_
            rotate_left
            · (intro w; go_simp; try with_reducible rfl)
            refine wpAny_take (i := 7) (v := ?_) rfl (by kernel_rfl) (by kernel_rfl) (by kernel_rfl) (fun _ _ _ h => h) (Or.inl ⟨by kernel_rfl, ?_⟩) ?_
            rotate_left
            · (intro w; go_simp; try with_reducible rfl)
            refine wpAny_ready (rs := [8, 9]) (by kernel_rfl) (by simp) ?_
            refine AllReady.cons rfl (fun K hK => ?_) (AllReady.cons rfl (fun K hK => ?_) (AllReady.nil))
            · go_simp
              refine hK _ _ ?_
              clear hK K
              refine wpAny_ready (rs := [9]) (by kernel_rfl) (by simp) ?_
              refine AllReady.cons rfl (fun K hK => ?_) (AllReady.nil)
              go_simp
              refine hK _ _ ?_
              clear hK K
              refine wpAny_ready (rs := [10]) (by kernel_rfl) (by simp) ?_
              refine AllReady.cons rfl (fun K hK => ?_) (AllReady.nil)
              go_simp
              refine hK _ _ ?_
              clear hK K
              refine wpAny_ready (rs := [11]) (by kernel_rfl) (by simp) ?_
              refine AllReady.cons rfl (fun K hK => ?_) (AllReady.nil)
              go_simp
              refine hK _ _ ?_
              clear hK K
              refine wpAny_done (by kernel_rfl) ?_ _
              obtain ⟨p, hp⟩ : ∃ p, p = w4.heap.size := ⟨_, rfl⟩
              obtain ⟨V, hV⟩ : ∃ V, V = w4.alloc (.cells #[.slice a4 n4 c4, .string X4] 78) := ⟨_, rfl⟩
              rw [← hV, ← hp]
              have HF : Hid (DocF w wr w4 (lineP st t).1 a4 c4 l4 p #[.slice a4 n4 c4, .string X4] V) := Lib.hid (by rw [hV, hp]; exact doc_f1 HB4.out HD4.out)
              clear hV hp
              have x0' : V.heap[w.heap.size]? = some (.cells #[.slice none 0 0, .string ⟨#[]⟩] 78 (0, 0)) := (HF.out.low.block _ (lt_of_block X0.out)).trans X0.out
              have x1' : V.heap[w.heap.size + 1]? = some (.cells #[.slice a n c, .string X] 78 (0, 0)) := (HF.out.low.block _ (lt_of_block X1.out)).trans X1.out
              have y := HF.out.box
              by_cases hc : code = 0
              · have p0 : V.cell? ⟨p, 0, none⟩ = some (.slice a4 n4 c4) := by simp [World.cell?, y]
                have p1 : V.cell? ⟨p, 1, none⟩ = some (.string X4) := by simp [World.cell?, y]
                have q0 : V.cell? ⟨w.heap.size + 1, 0, none⟩ = some (.slice a n c) := by simp [World.cell?, x1']
                have q1 : V.cell? ⟨w.heap.size + 1, 1, none⟩ = some (.string X) := by simp [World.cell?, x1']
                have r0 : V.frozen? ⟨w.heap.size + 1, 0, none⟩ = false := by simp [World.frozen?, x1']
                have r1 : V.frozen? ⟨w.heap.size + 1, 1, none⟩ = false := by simp [World.frozen?, x1']
                have HScan := Lib.hid (HGood.out (by rw [← HCode.out]; exact hc))
                have XX0 := Lib.hid x0'
                have XX1 := Lib.hid x1'
                subst hc
                clear x0' x1' y c0 c1 c0a c1a
                go_wp2
                go_roundw
                case rel =>
                  exact ⟨i + 1, i + 1, m + 1, (lineP st t).1, a4, c4, n4, X4, l4, by simp, by simp, by simp, by omega, Nat.le_refl _, by omega, doc_next HF.out XX0.out XX1.out (HI.out.low.trans (HF.out.low.mono (lt_of_block X0.out |> Nat.le_of_lt))) HScan.out HDv4.out _ rfl⟩
                case measure => simp only [intOf]; omega
              · have hcb : (code == 0) = false := by rw [beq_eq_false_iff_ne]; exact hc
                have q0 : V.cell? ⟨w.heap.size, 0, none⟩ = some (.slice none 0 0) := by simp [World.cell?, x0']
                have q1 : V.cell? ⟨w.heap.size, 1, none⟩ = some (.string ⟨#[]⟩) := by simp [World.cell?, x0']
                have r0 : V.frozen? ⟨w.heap.size, 0, none⟩ = false := by simp [World.frozen?, x0']
                have r1 : V.frozen? ⟨w.heap.size, 1, none⟩ = false := by simp [World.frozen?, x0']
                have HStop := Lib.hid (HBad.out (by rw [← HCode.out]; exact hc))
                have HC := Lib.hid hc
                have XX0 := Lib.hid x0'
                clear x0' x1' y c0 c1 c0a c1a hc
                go_wp2
                refine bodyPost_ret (results_cellrow_tmp2 rfl _ _ w.heap.size _ _ _ _ rfl (heap_setCell_same _ _ _ _ _ _ (heap_setCell_same _ _ _ _ _ _ XX0.out)) Tryz.underlying78 rfl (by kernel_rfl)) rfl ?_
                exact doc_stop (HI.out.low.trans (HF.out.low.mono (lt_of_block X0.out |> Nat.le_of_lt))) HStop.out HCode.out HC.out _ _ _ rfl _ rfl
            · go_simp
              refine hK _ _ ?_
              clear hK K
              refine wpAny_ready (rs := [8, 10]) (by kernel_rfl) (by simp) ?_
              refine AllReady.cons rfl (fun K hK => ?_) (AllReady.cons rfl (fun K hK => ?_) (AllReady.nil))
              · go_simp
                refine hK _ _ ?_
                clear hK K
                refine wpAny_ready (rs := [10]) (by kernel_rfl) (by simp) ?_
                refine AllReady.cons rfl (fun K hK => ?_) (AllReady.nil)
                go_simp
                refine hK _ _ ?_
                clear hK K
                refine wpAny_ready (rs := [11]) (by kernel_rfl) (by simp) ?_
                refine AllReady.cons rfl (fun K hK => ?_) (AllReady.nil)
                go_simp
                refine hK _ _ ?_
                clear hK K
                refine wpAny_done (by kernel_rfl) ?_ _
                obtain ⟨p, hp⟩ : ∃ p, p = w4.heap.size := ⟨_, rfl⟩
                obtain ⟨V, hV⟩ : ∃ V, V = w4.alloc (.cells #[.slice a4 n4 c4, .string X4] 78) := ⟨_, rfl⟩
                rw [← hV, ← hp]
                have HF : Hid (DocF w wr w4 (lineP st t).1 a4 c4 l4 p #[.slice a4 n4 c4, .string X4] V) := Lib.hid (by rw [hV, hp]; exact doc_f1 HB4.out HD4.out)
                clear hV hp
                have x0' : V.heap[w.heap.size]? = some (.cells #[.slice none 0 0, .string ⟨#[]⟩] 78 (0, 0)) := (HF.out.low.block _ (lt_of_block X0.out)).trans X0.out
                have x1' : V.heap[w.heap.size + 1]? = some (.cells #[.slice a n c, .string X] 78 (0, 0)) := (HF.out.low.block _ (lt_of_block X1.out)).trans X1.out
                have y := HF.out.box
                by_cases hc : code = 0
                · have p0 : V.cell? ⟨p, 0, none⟩ = some (.slice a4 n4 c4) := by simp [World.cell?, y]
                  have p1 : V.cell? ⟨p, 1, none⟩ = some (.string X4) := by simp [World.cell?, y]
                  have q0 : V.cell? ⟨w.heap.size + 1, 0, none⟩ = some (.slice a n c) := by simp [World.cell?, x1']
                  have q1 : V.cell? ⟨w.heap.size + 1, 1, none⟩ = some (.string X) := by simp [World.cell?, x1']
                  have r0 : V.frozen? ⟨w.heap.size + 1, 0, none⟩ = false := by simp [World.frozen?, x1']
                  have r1 : V.frozen? ⟨w.heap.size + 1, 1, none⟩ = false := by simp [World.frozen?, x1']
                  have HScan := Lib.hid (HGood.out (by rw [← HCode.out]; exact hc))
                  have XX0 := Lib.hid x0'
                  have XX1 := Lib.hid x1'
                  subst hc
                  clear x0' x1' y c0 c1 c0a c1a
                  go_wp2
                  go_roundw
                  case rel =>
                    exact ⟨i + 1, i + 1, m + 1, (lineP st t).1, a4, c4, n4, X4, l4, by simp, by simp, by simp, by omega, Nat.le_refl _, by omega, doc_next HF.out XX0.out XX1.out (HI.out.low.trans (HF.out.low.mono (lt_of_block X0.out |> Nat.le_of_lt))) HScan.out HDv4.out _ rfl⟩
                  case measure => simp only [intOf]; omega
                · have hcb : (code == 0) = false := by rw [beq_eq_false_iff_ne]; exact hc
                  have q0 : V.cell? ⟨w.heap.size, 0, none⟩ = some (.slice none 0 0) := by simp [World.cell?, x0']
                  have q1 : V.cell? ⟨w.heap.size, 1, none⟩ = some (.string ⟨#[]⟩) := by simp [World.cell?, x0']
                  have r0 : V.frozen? ⟨w.heap.size, 0, none⟩ = false := by simp [World.frozen?, x0']
                  have r1 : V.frozen? ⟨w.heap.size, 1, none⟩ = false := by simp [World.frozen?, x0']
                  have HStop := Lib.hid (HBad.out (by rw [← HCode.out]; exact hc))
                  have HC := Lib.hid hc
                  have XX0 := Lib.hid x0'
                  clear x0' x1' y c0 c1 c0a c1a hc
                  go_wp2
                  refine bodyPost_ret (results_cellrow_tmp2 rfl _ _ w.heap.size _ _ _ _ rfl (heap_setCell_same _ _ _ _ _ _ (heap_setCell_same _ _ _ _ _ _ XX0.out)) Tryz.underlying78 rfl (by kernel_rfl)) rfl ?_
                  exact doc_stop (HI.out.low.trans (HF.out.low.mono (lt_of_block X0.out |> Nat.le_of_lt))) HStop.out HCode.out HC.out _ _ _ rfl _ rfl
              · go_simp
                refine hK _ _ ?_
                clear hK K
                refine wpAny_ready (rs := [8]) (by kernel_rfl) (by simp) ?_
                refine AllReady.cons rfl (fun K hK => ?_) (AllReady.nil)
                go_simp
                refine hK _ _ ?_
                clear hK K
                refine wpAny_ready (rs := [11]) (by kernel_rfl) (by simp) ?_
                refine AllReady.cons rfl (fun K hK => ?_) (AllReady.nil)
                go_simp
                refine hK _ _ ?_
                clear hK K
                refine wpAny_done (by kernel_rfl) ?_ _
                obtain ⟨p, hp⟩ : ∃ p, p = w4.heap.size := ⟨_, rfl⟩
                obtain ⟨V, hV⟩ : ∃ V, V = w4.alloc (.cells #[.slice a4 n4 c4, .string X4] 78) := ⟨_, rfl⟩
                rw [← hV, ← hp]
                have HF : Hid (DocF w wr w4 (lineP st t).1 a4 c4 l4 p #[.slice a4 n4 c4, .string X4] V) := Lib.hid (by rw [hV, hp]; exact doc_f1 HB4.out HD4.out)
                clear hV hp
                have x0' : V.heap[w.heap.size]? = some (.cells #[.slice none 0 0, .string ⟨#[]⟩] 78 (0, 0)) := (HF.out.low.block _ (lt_of_block X0.out)).trans X0.out
                have x1' : V.heap[w.heap.size + 1]? = some (.cells #[.slice a n c, .string X] 78 (0, 0)) := (HF.out.low.block _ (lt_of_block X1.out)).trans X1.out
                have y := HF.out.box
                by_cases hc : code = 0
                · have p0 : V.cell? ⟨p, 0, none⟩ = some (.slice a4 n4 c4) := by simp [World.cell?, y]
                  have p1 : V.cell? ⟨p, 1, none⟩ = some (.string X4) := by simp [World.cell?, y]
                  have q0 : V.cell? ⟨w.heap.size + 1, 0, none⟩ = some (.slice a n c) := by simp [World.cell?, x1']
                  have q1 : V.cell? ⟨w.heap.size + 1, 1, none⟩ = some (.string X) := by simp [World.cell?, x1']
                  have r0 : V.frozen? ⟨w.heap.size + 1, 0, none⟩ = false := by simp [World.frozen?, x1']
                  have r1 : V.frozen? ⟨w.heap.size + 1, 1, none⟩ = false := by simp [World.frozen?, x1']
                  have HScan := Lib.hid (HGood.out (by rw [← HCode.out]; exact hc))
                  have XX0 := Lib.hid x0'
                  have XX1 := Lib.hid x1'
                  subst hc
                  clear x0' x1' y c0 c1 c0a c1a
                  go_wp2
                  go_roundw
                  case rel =>
                    exact ⟨i + 1, i + 1, m + 1, (lineP st t).1, a4, c4, n4, X4, l4, by simp, by simp, by simp, by omega, Nat.le_refl _, by omega, doc_next HF.out XX0.out XX1.out (HI.out.low.trans (HF.out.low.mono (lt_of_block X0.out |> Nat.le_of_lt))) HScan.out HDv4.out _ rfl⟩
                  case measure => simp only [intOf]; omega
                · have hcb : (code == 0) = false := by rw [beq_eq_false_iff_ne]; exact hc
                  have q0 : V.cell? ⟨w.heap.size, 0, none⟩ = some (.slice none 0 0) := by simp [World.cell?, x0']
                  have q1 : V.cell? ⟨w.heap.size, 1, none⟩ = some (.string ⟨#[]⟩) := by simp [World.cell?, x0']
                  have r0 : V.frozen? ⟨w.heap.size, 0, none⟩ = false := by simp [World.frozen?, x0']
                  have r1 : V.frozen? ⟨w.heap.size, 1, none⟩ = false := by simp [World.frozen?, x0']
                  have HStop := Lib.hid (HBad.out (by rw [← HCode.out]; exact hc))
                  have HC := Lib.hid hc
                  have XX0 := Lib.hid x0'
                  clear x0' x1' y c0 c1 c0a c1a hc
                  go_wp2
                  refine bodyPost_ret (results_cellrow_tmp2 rfl _ _ w.heap.size _ _ _ _ rfl (heap_setCell_same _ _ _ _ _ _ (heap_setCell_same _ _ _ _ _ _ XX0.out)) Tryz.underlying78 rfl (by kernel_rfl)) rfl ?_
                  exact doc_stop (HI.out.low.trans (HF.out.low.mono (lt_of_block X0.out |> Nat.le_of_lt))) HStop.out HCode.out HC.out _ _ _ rfl _ rfl
          · go_simp
            refine hK _ _ ?_
            clear hK K
            refine wpAny_ready (rs := [5]) (by kernel_rfl) (by simp) ?_
            refine AllReady.cons rfl (fun K hK => ?_) (AllReady.nil)
            go_simp
            go_at_call 86
            refine (HLine.out _ ((below_drewN (Below.refl _ _) 1).alloc (by simp) _)).mono ?_
            rintro e w4 ⟨⟨a4, c4, l4, rfl, hD4⟩, hb4⟩
            obtain ⟨n4, X4, hdv4⟩ := doc_hv (lineP st t).1 a4 c4 l4
            obtain ⟨code, hcode⟩ : ∃ x, x = (lineP st t).2 := ⟨_, rfl⟩
            rw [hdv4, ← hcode]
            have HD4 := Lib.hid hD4
            have HB4 : Hid (Below wr.heap.size wr w4) := Lib.hid (((below_drewN (Below.refl _ _) 1).alloc (by simp) _).trans (hb4.mono (by show wr.heap.size ≤ (wr.alloc _).heap.size; simp)))
            have HDv4 := Lib.hid hdv4
            have HCode := Lib.hid hcode
            have z : w4.heap[wr.heap.size]? = some (.cells #[.slice none 0 0, .string ⟨#[]⟩] 78 (0, 0)) := doc_box hb4
            have p0 : w4.cell? ⟨wr.heap.size, 0, none⟩ = some (.slice none 0 0) := by simp [World.cell?, z]
            have p1 : w4.cell? ⟨wr.heap.size, 1, none⟩ = some (.string ⟨#[]⟩) := by simp [World.cell?, z]
            have r0 : w4.frozen? ⟨wr.heap.size, 0, none⟩ = false := by simp [World.frozen?, z]
            have r1 : w4.frozen? ⟨wr.heap.size, 1, none⟩ = false := by simp [World.frozen?, z]
            have Z := Lib.hid z
            clear z
            clear hD4 hb4 hdv4 hcode
            go_wp2_with fail
            refine wpAny_take (i := 6) (v := ?_) rfl (by kernel_rfl) (by kernel_rfl) (by kernel_rfl) (fun _ _ _ h => h) (Or.inl ⟨by kernel_rfl, ?_⟩) ?_
            rotate_left
            · (intro w; go_simp; try with_reducible rfl)
            refine wpAny_take (i := 7) (v := ?_) rfl (by kernel_rfl) (by kernel_rfl) (by kernel_rfl) (fun _ _ _ h => h) (Or.inl ⟨by kernel_rfl, ?_⟩) ?_
            rotate_left
            · (intro w; go_simp; try with_reducible rfl)
            refine wpAny_ready (rs := [8, 10]) (by kernel_rfl) (by simp) ?_
            refine AllReady.cons rfl (fun K hK => ?_) (AllReady.cons rfl (fun K hK => ?_) (AllReady.nil))
            · go_simp
              refine hK _ _ ?_
              clear hK K
              refine wpAny_ready (rs := [10]) (by kernel_rfl) (by simp) ?_
              refine AllReady.cons rfl (fun K hK => ?_) (AllReady.nil)
              go_simp
              refine hK _ _ ?_
              clear hK K
              refine wpAny_ready (rs := [11]) (by kernel_rfl) (by simp) ?_
              refine AllReady.cons rfl (fun K hK => ?_) (AllReady.nil)
              go_simp
              refine hK _ _ ?_
              clear hK K
              refine wpAny_done (by kernel_rfl) ?_ _
              obtain ⟨V, hV⟩ : ∃ V, V = (w4.setCell ⟨wr.heap.size, 0, none⟩ (.slice a4 n4 c4)).setCell ⟨wr.heap.size, 1, none⟩ (.string X4) := ⟨_, rfl⟩
              obtain ⟨p, hp⟩ : ∃ p, p = wr.heap.size := ⟨_, rfl⟩
              rw [← hV, ← hp]
              have HF : Hid (DocF w wr w4 (lineP st t).1 a4 c4 l4 p #[.slice a4 n4 c4, .string X4] V) := Lib.hid (by rw [hV, hp]; exact doc_f2 Z.out HB4.out HD4.out)
              clear Z p0 p1 r0 r1
              clear hV hp
              have x0' : V.heap[w.heap.size]? = some (.cells #[.slice none 0 0, .string ⟨#[]⟩] 78 (0, 0)) := (HF.out.low.block _ (lt_of_block X0.out)).trans X0.out
              have x1' : V.heap[w.heap.size + 1]? = some (.cells #[.slice a n c, .string X] 78 (0, 0)) := (HF.out.low.block _ (lt_of_block X1.out)).trans X1.out
              have y := HF.out.box
              by_cases hc : code = 0
              · have p0 : V.cell? ⟨p, 0, none⟩ = some (.slice a4 n4 c4) := by simp [World.cell?, y]
                have p1 : V.cell? ⟨p, 1, none⟩ = some (.string X4) := by simp [World.cell?, y]
                have q0 : V.cell? ⟨w.heap.size + 1, 0, none⟩ = some (.slice a n c) := by simp [World.cell?, x1']
                have q1 : V.cell? ⟨w.heap.size + 1, 1, none⟩ = some (.string X) := by simp [World.cell?, x1']
                have r0 : V.frozen? ⟨w.heap.size + 1, 0, none⟩ = false := by simp [World.frozen?, x1']
                have r1 : V.frozen? ⟨w.heap.size + 1, 1, none⟩ = false := by simp [World.frozen?, x1']
                have HScan := Lib.hid (HGood.out (by rw [← HCode.out]; exact hc))
                have XX0 := Lib.hid x0'
                have XX1 := Lib.hid x1'
                subst hc
                clear x0' x1' y c0 c1 c0a c1a
                go_wp2
                go_roundw
                case rel =>
                  exact ⟨i + 1, i + 1, m + 1, (lineP st t).1, a4, c4, n4, X4, l4, by simp, by simp, by simp, by omega, Nat.le_refl _, by omega, doc_next HF.out XX0.out XX1.out (HI.out.low.trans (HF.out.low.mono (lt_of_block X0.out |> Nat.le_of_lt))) HScan.out HDv4.out _ rfl⟩
                case measure => simp only [intOf]; omega
              · have hcb : (code == 0) = false := by rw [beq_eq_false_iff_ne]; exact hc
                have q0 : V.cell? ⟨w.heap.size, 0, none⟩ = some (.slice none 0 0) := by simp [World.cell?, x0']
                have q1 : V.cell? ⟨w.heap.size, 1, none⟩ = some (.string ⟨#[]⟩) := by simp [World.cell?, x0']
                have r0 : V.frozen? ⟨w.heap.size, 0, none⟩ = false := by simp [World.frozen?, x0']
                have r1 : V.frozen? ⟨w.heap.size, 1, none⟩ = false := by simp [World.frozen?, x0']
                have HStop := Lib.hid (HBad.out (by rw [← HCode.out]; exact hc))
                have HC := Lib.hid hc
                have XX0 := Lib.hid x0'
                clear x0' x1' y c0 c1 c0a c1a hc
                go_wp2
                refine bodyPost_ret (results_cellrow_tmp2 rfl _ _ w.heap.size _ _ _ _ rfl (heap_setCell_same _ _ _ _ _ _ (heap_setCell_same _ _ _ _ _ _ XX0.out)) Tryz.underlying78 rfl (by kernel_rfl)) rfl ?_
                exact doc_stop (HI.out.low.trans (HF.out.low.mono (lt_of_block X0.out |> Nat.le_of_lt))) HStop.out HCode.out HC.out _ _ _ rfl _ rfl
            · go_simp
              refine hK _ _ ?_
              clear hK K
              refine wpAny_ready (rs := [8]) (by kernel_rfl) (by simp) ?_
              refine AllReady.cons rfl (fun K hK => ?_) (AllReady.nil)
              go_simp
              refine hK _ _ ?_
              clear hK K
              refine wpAny_ready (rs := [11]) (by kernel_rfl) (by simp) ?_
              refine AllReady.cons rfl (fun K hK => ?_) (AllReady.nil)
              go_simp
              refine hK _ _ ?_
              clear hK K
              refine wpAny_done (by kernel_rfl) ?_ _
              obtain ⟨V, hV⟩ : ∃ V, V = (w4.setCell ⟨wr.heap.size, 0, none⟩ (.slice a4 n4 c4)).setCell ⟨wr.heap.size, 1, none⟩ (.string X4) := ⟨_, rfl⟩
              obtain ⟨p, hp⟩ : ∃ p, p = wr.heap.size := ⟨_, rfl⟩
              rw [← hV, ← hp]
              have HF : Hid (DocF w wr w4 (lineP st t).1 a4 c4 l4 p #[.slice a4 n4 c4, .string X4] V) := Lib.hid (by rw [hV, hp]; exact doc_f2 Z.out HB4.out HD4.out)
              clear Z p0 p1 r0 r1
              clear hV hp
              have x0' : V.heap[w.heap.size]? = some (.cells #[.slice none 0 0, .string ⟨#[]⟩] 78 (0, 0)) := (HF.out.low.block _ (lt_of_block X0.out)).trans X0.out
              have x1' : V.heap[w.heap.size + 1]? = some (.cells #[.slice a n c, .string X] 78 (0, 0)) := (HF.out.low.block _ (lt_of_block X1.out)).trans X1.out
              have y := HF.out.box
              by_cases hc : code = 0
              · have p0 : V.cell? ⟨p, 0, none⟩ = some (.slice a4 n4 c4) := by simp [World.cell?, y]
                have p1 : V.cell? ⟨p, 1, none⟩ = some (.string X4) := by simp [World.cell?, y]
                have q0 : V.cell? ⟨w.heap.size + 1, 0, none⟩ = some (.slice a n c) := by simp [World.cell?, x1']
                have q1 : V.cell? ⟨w.heap.size + 1, 1, none⟩ = some (.string X) := by simp [World.cell?, x1']
                have r0 : V.frozen? ⟨w.heap.size + 1, 0, none⟩ = false := by simp [World.frozen?, x1']
                have r1 : V.frozen? ⟨w.heap.size + 1, 1, none⟩ = false := by simp [World.frozen?, x1']
                have HScan := Lib.hid (HGood.out (by rw [← HCode.out]; exact hc))
                have XX0 := Lib.hid x0'
                have XX1 := Lib.hid x1'
                subst hc
                clear x0' x1' y c0 c1 c0a c1a
                go_wp2
                go_roundw
                case rel =>
                  exact ⟨i + 1, i + 1, m + 1, (lineP st t).1, a4, c4, n4, X4, l4, by simp, by simp, by simp, by omega, Nat.le_refl _, by omega, doc_next HF.out XX0.out XX1.out (HI.out.low.trans (HF.out.low.mono (lt_of_block X0.out |> Nat.le_of_lt))) HScan.out HDv4.out _ rfl⟩
                case measure => simp only [intOf]; omega
              · have hcb : (code == 0) = false := by rw [beq_eq_false_iff_ne]; exact hc
                have q0 : V.cell? ⟨w.heap.size, 0, none⟩ = some (.slice none 0 0) := by simp [World.cell?, x0']
                have q1 : V.cell? ⟨w.heap.size, 1, none⟩ = some (.string ⟨#[]⟩) := by simp [World.cell?, x0']
                have r0 : V.frozen? ⟨w.heap.size, 0, none⟩ = false := by simp [World.frozen?, x0']
                have r1 : V.frozen? ⟨w.heap.size, 1, none⟩ = false := by simp [World.frozen?, x0']
                have HStop := Lib.hid (HBad.out (by rw [← HCode.out]; exact hc))
                have HC := Lib.hid hc
                have XX0 := Lib.hid x0'
                clear x0' x1' y c0 c1 c0a c1a hc
                go_wp2
                refine bodyPost_ret (results_cellrow_tmp2 rfl _ _ w.heap.size _ _ _ _ rfl (heap_setCell_same _ _ _ _ _ _ (heap_setCell_same _ _ _ _ _ _ XX0.out)) Tryz.underlying78 rfl (by kernel_rfl)) rfl ?_
                exact doc_stop (HI.out.low.trans (HF.out.low.mono (lt_of_block X0.out |> Nat.le_of_lt))) HStop.out HCode.out HC.out _ _ _ rfl _ rfl
        · go_simp
          refine hK _ _ ?_
          clear hK K
          refine wpAny_ready (rs := [0]) (by kernel_rfl) (by simp) ?_
          refine AllReady.cons rfl (fun K hK => ?_) (AllReady.nil)
          go_simp
          refine hK _ _ ?_
          clear hK K
          refine wpAny_ready (rs := [5]) (by kernel_rfl) (by simp) ?_
          refine AllReady.cons rfl (fun K hK => ?_) (AllReady.nil)
          go_simp
          go_at_call 86
          refine (HLine.out _ ((below_drewN (Below.refl _ _) 1).alloc (by simp) _)).mono ?_
          rintro e w4 ⟨⟨a4, c4, l4, rfl, hD4⟩, hb4⟩
          obtain ⟨n4, X4, hdv4⟩ := doc_hv (lineP st t).1 a4 c4 l4
          obtain ⟨code, hcode⟩ : ∃ x, x = (lineP st t).2 := ⟨_, rfl⟩
          rw [hdv4, ← hcode]
          have HD4 := Lib.hid hD4
          have HB4 : Hid (Below wr.heap.size wr w4) := Lib.hid (((below_drewN (Below.refl _ _) 1).alloc (by simp) _).trans (hb4.mono (by show wr.heap.size ≤ (wr.alloc _).heap.size; simp)))
          have HDv4 := Lib.hid hdv4
          have HCode := Lib.hid hcode
          have z : w4.heap[wr.heap.size]? = some (.cells #[.slice none 0 0, .string ⟨#[]⟩] 78 (0, 0)) := doc_box hb4
          have p0 : w4.cell? ⟨wr.heap.size, 0, none⟩ = some (.slice none 0 0) := by simp [World.cell?, z]
          have p1 : w4.cell? ⟨wr.heap.size, 1, none⟩ = some (.string ⟨#[]⟩) := by simp [World.cell?, z]
          have r0 : w4.frozen? ⟨wr.heap.size, 0, none⟩ = false := by simp [World.frozen?, z]
          have r1 : w4.frozen? ⟨wr.heap.size, 1, none⟩ = false := by simp [World.frozen?, z]
          have Z := Lib.hid z
          clear z
          clear hD4 hb4 hdv4 hcode
          go_wp2_with fail
          refine wpAny_take (i := 6) (v := ?_) rfl (by kernel_rfl) (by kernel_rfl) (by kernel_rfl) (fun _ _ _ h => h) (Or.inl ⟨by kernel_rfl, ?_⟩) ?_
          rotate_left
          · (intro w; go_simp; try with_reducible rfl)
          refine wpAny_take (i := 7) (v := ?_) rfl (by kernel_rfl) (by kernel_rfl) (by kernel_rfl) (fun _ _ _ h => h) (Or.inl ⟨by kernel_rfl, ?_⟩) ?_
          rotate_left
          · (intro w; go_simp; try with_reducible rfl)
          refine wpAny_ready (rs := [8, 10]) (by kernel_rfl) (by simp) ?_
          refine AllReady.cons rfl (fun K hK => ?_) (AllReady.cons rfl (fun K hK => ?_) (AllReady.nil))
          · go_simp
            refine hK _ _ ?_
            clear hK K
            refine wpAny_ready (rs := [10]) (by kernel_rfl) (by simp) ?_
            refine AllReady.cons rfl (fun K hK => ?_) (AllReady.nil)
            go_simp
            refine hK _ _ ?_
            clear hK K
            refine wpAny_ready (rs := [11]) (by kernel_rfl) (by simp) ?_
            refine AllReady.cons rfl (fun K hK => ?_) (AllReady.nil)
            go_simp
            refine hK _ _ ?_
            clear hK K
            refine wpAny_done (by kernel_rfl) ?_ _
            obtain ⟨V, hV⟩ : ∃ V, V = (w4.setCell ⟨wr.heap.size, 0, none⟩ (.slice a4 n4 c4)).setCell ⟨wr.heap.size, 1, none⟩ (.string X4) := ⟨_, rfl⟩
            obtain ⟨p, hp⟩ : ∃ p, p = wr.heap.size := ⟨_, rfl⟩
            rw [← hV, ← hp]
            have HF : Hid (DocF w wr w4 (lineP st t).1 a4 c4 l4 p #[.slice a4 n4 c4, .string X4] V) := Lib.hid (by rw [hV, hp]; exact doc_f2 Z.out HB4.out HD4.out)
            clear Z p0 p1 r0 r1
            clear hV hp
            have x0' : V.heap[w.heap.size]? = some (.cells #[.slice none 0 0, .string ⟨#[]⟩] 78 (0, 0)) := (HF.out.low.block _ (lt_of_block X0.out)).trans X0.out
            have x1' : V.heap[w.heap.size + 1]? = some (.cells #[.slice a n c, .string X] 78 (0, 0)) := (HF.out.low.block _ (lt_of_block X1.out)).trans X1.out
            have y := HF.out.box
            by_cases hc : code = 0
            · have p0 : V.cell? ⟨p, 0, none⟩ = some (.slice a4 n4 c4) := by simp [World.cell?, y]
              have p1 : V.cell? ⟨p, 1, none⟩ = some (.string X4) := by simp [World.cell?, y]
              have q0 : V.cell? ⟨w.heap.size + 1, 0, none⟩ = some (.slice a n c) := by simp [World.cell?, x1']
              have q1 : V.cell? ⟨w.heap.size + 1, 1, none⟩ = some (.string X) := by simp [World.cell?, x1']
              have r0 : V.frozen? ⟨w.heap.size + 1, 0, none⟩ = false := by simp [World.frozen?, x1']
              have r1 : V.frozen? ⟨w.heap.size + 1, 1, none⟩ = false := by simp [World.frozen?, x1']
              have HScan := Lib.hid (HGood.out (by rw [← HCode.out]; exact hc))
              have XX0 := Lib.hid x0'
              have XX1 := Lib.hid x1'
              subst hc
              clear x0' x1' y c0 c1 c0a c1a
              go_wp2
              go_roundw
              case rel =>
                exact ⟨i + 1, i + 1, m + 1, (lineP st t).1, a4, c4, n4, X4, l4, by simp, by simp, by simp, by omega, Nat.le_refl _, by omega, doc_next HF.out XX0.out XX1.out (HI.out.low.trans (HF.out.low.mono (lt_of_block X0.out |> Nat.le_of_lt))) HScan.out HDv4.out _ rfl⟩
              case measure => simp only [intOf]; omega
            · have hcb : (code == 0) = false := by rw [beq_eq_false_iff_ne]; exact hc
              have q0 : V.cell? ⟨w.heap.size, 0, none⟩ = some (.slice none 0 0) := by simp [World.cell?, x0']
              have q1 : V.cell? ⟨w.heap.size, 1, none⟩ = some (.string ⟨#[]⟩) := by simp [World.cell?, x0']
              have r0 : V.frozen? ⟨w.heap.size, 0, none⟩ = false := by simp [World.frozen?, x0']
              have r1 : V.frozen? ⟨w.heap.size, 1, none⟩ = false := by simp [World.frozen?, x0']
              have HStop := Lib.hid (HBad.out (by rw [← HCode.out]; exact hc))
              have HC := Lib.hid hc
              have XX0 := Lib.hid x0'
              clear x0' x1' y c0 c1 c0a c1a hc
              go_wp2
              refine bodyPost_ret (results_cellrow_tmp2 rfl _ _ w.heap.size _ _ _ _ rfl (heap_setCell_same _ _ _ _ _ _ (heap_setCell_same _ _ _ _ _ _ XX0.out)) Tryz.underlying78 rfl (by kernel_rfl)) rfl ?_
              exact doc_stop (HI.out.low.trans (HF.out.low.mono (lt_of_block X0.out |> Nat.le_of_lt))) HStop.out HCode.out HC.out _ _ _ rfl _ rfl
          · go_simp
            refine hK _ _ ?_
            clear hK K
            refine wpAny_ready (rs := [8]) (by kernel_rfl) (by simp) ?_
            refine AllReady.cons rfl (fun K hK => ?_) (AllReady.nil)
            go_simp
            refine hK _ _ ?_
            clear hK K
            refine wpAny_ready (rs := [11]) (by kernel_rfl) (by simp) ?_
            refine AllReady.cons rfl (fun K hK => ?_) (AllReady.nil)
            go_simp
            refine hK _ _ ?_
            clear hK K
            refine wpAny_done (by kernel_rfl) ?_ _
            obtain ⟨V, hV⟩ : ∃ V, V = (w4.setCell ⟨wr.heap.size, 0, none⟩ (.slice a4 n4 c4)).setCell ⟨wr.heap.size, 1, none⟩ (.string X4) := ⟨_, rfl⟩
            obtain ⟨p, hp⟩ : ∃ p, p = wr.heap.size := ⟨_, rfl⟩
            rw [← hV, ← hp]
            have HF : Hid (DocF w wr w4 (lineP st t).1 a4 c4 l4 p #[.slice a4 n4 c4, .string X4] V) := Lib.hid (by rw [hV, hp]; exact doc_f2 Z.out HB4.out HD4.out)
            clear Z p0 p1 r0 r1
            clear hV hp
            have x0' : V.heap[w.heap.size]? = some (.cells #[.slice none 0 0, .string ⟨#[]⟩] 78 (0, 0)) := (HF.out.low.block _ (lt_of_block X0.out)).trans X0.out
            have x1' : V.heap[w.heap.size + 1]? = some (.cells #[.slice a n c, .string X] 78 (0, 0)) := (HF.out.low.block _ (lt_of_block X1.out)).trans X1.out
            have y := HF.out.box
            by_cases hc : code = 0
            · have p0 : V.cell? ⟨p, 0, none⟩ = some (.slice a4 n4 c4) := by simp [World.cell?, y]
              have p1 : V.cell? ⟨p, 1, none⟩ = some (.string X4) := by simp [World.cell?, y]
              have q0 : V.cell? ⟨w.heap.size + 1, 0, none⟩ = some (.slice a n c) := by simp [World.cell?, x1']
              have q1 : V.cell? ⟨w.heap.size + 1, 1, none⟩ = some (.string X) := by simp [World.cell?, x1']
              have r0 : V.frozen? ⟨w.heap.size + 1, 0, none⟩ = false := by simp [World.frozen?, x1']
              have r1 : V.frozen? ⟨w.heap.size + 1, 1, none⟩ = false := by simp [World.frozen?, x1']
              have HScan := Lib.hid (HGood.out (by rw [← HCode.out]; exact hc))
              have XX0 := Lib.hid x0'
              have XX1 := Lib.hid x1'
              subst hc
              clear x0' x1' y c0 c1 c0a c1a
              go_wp2
              go_roundw
              case rel =>
                exact ⟨i + 1, i + 1, m + 1, (lineP st t).1, a4, c4, n4, X4, l4, by simp, by simp, by simp, by omega, Nat.le_refl _, by omega, doc_next HF.out XX0.out XX1.out (HI.out.low.trans (HF.out.low.mono (lt_of_block X0.out |> Nat.le_of_lt))) HScan.out HDv4.out _ rfl⟩
              case measure => simp only [intOf]; omega
            · have hcb : (code == 0) = false := by rw [beq_eq_false_iff_ne]; exact hc
              have q0 : V.cell? ⟨w.heap.size, 0, none⟩ = some (.slice none 0 0) := by simp [World.cell?, x0']
              have q1 : V.cell? ⟨w.heap.size, 1, none⟩ = some (.string ⟨#[]⟩) := by simp [World.cell?, x0']
              have r0 : V.frozen? ⟨w.heap.size, 0, none⟩ = false := by simp [World.frozen?, x0']
              have r1 : V.frozen? ⟨w.heap.size, 1, none⟩ = false := by simp [World.frozen?, x0']
              have HStop := Lib.hid (HBad.out (by rw [← HCode.out]; exact hc))
              have HC := Lib.hid hc
              have XX0 := Lib.hid x0'
              clear x0' x1' y c0 c1 c0a c1a hc
              go_wp2
              refine bodyPost_ret (results_cellrow_tmp2 rfl _ _ w.heap.size _ _ _ _ rfl (heap_setCell_same _ _ _ _ _ _ (heap_setCell_same _ _ _ _ _ _ XX0.out)) Tryz.underlying78 rfl (by kernel_rfl)) rfl ?_
              exact doc_stop (HI.out.low.trans (HF.out.low.mono (lt_of_block X0.out |> Nat.le_of_lt))) HStop.out HCode.out HC.out _ _ _ rfl _ rfl
      · have hb : ((((Y[i]'hlt).toNat : Nat) : Int) == 10) = false := by
          rw [HGet.out i hlt, beq_eq_false_iff_ne]
          intro e
          apply h10
          apply UInt8.toNat_inj.1
          have e32 : (10 : UInt8).toNat = 10 := rfl
          omega
        have HNo := Lib.hid h10
        clear h10 x0 x1
        have hltI : (i : Int) < (Y.size : Int) := by omega
        go_wp2
        go_roundw
        case rel =>
          obtain ⟨q1, q2, q3, q4, q5, q6⟩ := HI.out
          exact ⟨i + 1, f, m, st, a, c, n, X, l, rfl, rfl, by simp, by omega, by omega, hm, ⟨q1.on (by rw [← HYs.out]; exact hlt) HNo.out, q2, q3, q4, q5, q6⟩⟩
        case measure => simp only [intOf]; omega
    · have hei : i = Y.size := by omega
      have hgeI : decide ((i : Int) < (Y.size : Int)) = false := decide_eq_false (by omega)
      have hgeI2 : decide (i < Y.size) = false := decide_eq_false (by omega)
      have c0 : wr.cell? ⟨w.heap.size + 1, 0, none⟩ = some (.slice a n c) := by simp [World.cell?, x1]
      have c1 : wr.cell? ⟨w.heap.size + 1, 1, none⟩ = some (.string X) := by simp [World.cell?, x1]
      have f0 : wr.frozen? ⟨w.heap.size, 0, none⟩ = false := by simp [World.frozen?, x0]
      have f1 : wr.frozen? ⟨w.heap.size, 1, none⟩ = false := by simp [World.frozen?, x0]
      have d0 : wr.cell? ⟨w.heap.size, 0, none⟩ = some (.slice none 0 0) := by simp [World.cell?, x0]
      have d1 : wr.cell? ⟨w.heap.size, 1, none⟩ = some (.string ⟨#[]⟩) := by simp [World.cell?, x0]
      have X0 := Lib.hid x0
      have HEi := Lib.hid hei
      clear x0 x1 hei
      go_wp2
      refine bodyPost_ret (results_cellrow_tmp2 rfl _ _ w.heap.size _ _ _ _ rfl (heap_setCell_same _ _ _ _ _ _ (heap_setCell_same _ _ _ _ _ _ X0.out)) Tryz.underlying78 rfl (by kernel_rfl)) rfl ?_
      have hI := HI.out
      rw [HEi.out, HYs.out] at hI
      exact doc_done hI _ rfl _ rfl
end Go.Proofs.YtfejlkgddnamoaaGreatDoor
end
