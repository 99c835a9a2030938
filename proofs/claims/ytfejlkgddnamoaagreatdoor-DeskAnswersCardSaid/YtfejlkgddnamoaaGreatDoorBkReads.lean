/- WALK: book.number: a decimal number, as it is written. WALK: strings.Split at a space; strings.LastIndexByte. WALK: book.line: what a line says, done. LAW: a range over an iterator that keeps what is left in a cell of its own: what the caller owes is an invariant and one walk of its body. WALK: strings.Lines and its iterator: it gives the lines of a text, one after the other. -/
import Derived.Test.YtfejlkgddnamoaaGreatDoorBkShelf2
import Derived.Test.YtfejlkgddnamoaaGreatDoorBkWrite
import Derived.Test.YtfejlkgddnamoaaGreatDoorBkTexts
import Derived.WalkSmall
import Derived.Test.YtfejlkgddnamoaaGreatDoorBkRow
import Derived.RangeFuncNested
import Derived.RangeFuncBound
import Derived.RangeFuncCalls
import Derived.RangeFuncLeaves
import Derived.WalkKit
import Derived.OwnWalkIn
import Derived.TacticsInMore
import Derived.LoopNIn
import Derived.LoopIn
import Derived.BigRegionIn
set_option linter.unusedVariables false
set_option linter.unusedSimpArgs false
section
namespace Go.Proofs.YtfejlkgddnamoaaGreatDoor
open Go Go.RowKit NumPlain

def MaxL (w : World) : Prop := ∃ m, w.cell? ⟨si_laysM146_ren.g 1, 0, none⟩ = some (.int .i64 m)
/-- what the library reads -/
structure Env (w : World) : Prop where
  tab : Tab w
  max : MaxL w
  syn : ∃ tp p, w.var? Tryz.prog "strconv.ErrSyntax" = some #[.iface tp p]
  rng : ∃ tp p, w.var? Tryz.prog "strconv.ErrRange" = some #[.iface tp p]
  big : 9 ≤ w.heap.size
theorem Env.to {w w' : World} (h : Env w) (hb : Below w.heap.size w w') : Env w' := by
  have hbig := h.big
  refine ⟨h.tab.to hb, ?_, ?_, ?_, Nat.le_trans h.big hb.size⟩
  · obtain ⟨m, hm⟩ := h.max
    exact ⟨m, (hb.cell (p := ⟨si_laysM146_ren.g 1, 0, none⟩) (World.block_lt_of_cell? w _ hm)).trans hm⟩
  · obtain ⟨tp, p, h1⟩ := h.syn
    exact ⟨tp, p, var?_below hb (g := 4) (by kernel_rfl) (by omega) h1⟩
  · obtain ⟨tp, p, h1⟩ := h.rng
    exact ⟨tp, p, var?_below hb (g := 5) (by kernel_rfl) (by omega) h1⟩
theorem toList_dt (s : ByteArray) : s.toList = s.data.toList := by
  obtain ⟨⟨l⟩⟩ := s
  simp
def NumRes (s : List UInt8) (w : World) (e : Ending) (w' : World) : Prop :=
  ∃ v b, e = .returned (.tuple #[.int .i64 v, .bool b]) ∧ (b = true → numP s = some v) ∧ (b = false → numP s = none) ∧ Below w.heap.size w w'
set_option maxRecDepth 100000 in
set_option maxHeartbeats 2000000 in
theorem number_any (s : ByteArray) (hs : s.size ≤ 281474976710656) (w : World) (h : Env w) : Calls Tryz.prog 46 #[.string s] w fun e w' => NumRes s.data.toList w e w' := by
  cases ha : Lib.atoiAll s.data.toList with
  | ok v =>
    obtain ⟨v0, v1⟩ := Lib.atoiAll_bounds ha
    have hA := si_strconv_Atoi_ok s (by omega) v ha w
    have HI : Hid (∀ W, Below w.heap.size w W → Calls Tryz.prog 23 #[.int .i64 v] W fun e w' => e = .returned (.string ⟨(Lib.itoa v).toArray⟩) ∧ Below w.heap.size w w') := Lib.hid fun W hb =>
      (Itoa_any v v0 v1 W (h.tab.to hb)).mono fun e w' ⟨he, hb'⟩ => ⟨he, hb.trans (hb'.mono hb.size)⟩
    obtain ⟨Y, hY⟩ : ∃ Y : ByteArray, Y = ⟨(Lib.itoa v).toArray⟩ := ⟨_, rfl⟩
    rw [← hY] at HI
    have hres : ∀ w', Below w.heap.size w w' → NumRes s.data.toList w (.returned (.tuple #[.int .i64 v, .bool (Y.toList == s.toList)])) w' := fun w' hb => by
      refine ⟨v, _, rfl, fun e => ?_, fun e => ?_, hb⟩
      · have e' : Y.toList = s.toList := eq_of_beq e
        rw [toList_dt, toList_dt] at e'
        unfold numP
        rw [ha]
        simp only
        rw [if_pos]
        rw [← e', hY]
      · unfold numP
        rw [ha]
        simp only
        rw [if_neg]
        intro e2
        have e3 : Y.toList = s.toList := by rw [toList_dt, toList_dt, hY]; exact e2
        rw [e3] at e
        simp at e
    have HA := Lib.hid hA
    have HRes := Lib.hid hres
    clear hA hres h ha hY
    go_enter Tryz.func46, Tryz.ntmps46
    go_wp2_with fail
    refine HA.out.mono ?_
    rintro e w1 ⟨rfl, hw⟩
    have hb : Below w.heap.size w w1 := by
      rcases hw with rfl | ⟨t, rfl⟩
      · exact Below.refl _ _
      · exact Lib.bytesWorld_below _ _ _
    have HB := Lib.hid hb
    clear hw hb
    go_wp2_with fail
    refine (HI.out w1 HB.out).mono ?_
    rintro e w2 ⟨rfl, hb2⟩
    have HB2 := Lib.hid hb2
    clear hb2
    go_wp2
    go_ret2
    exact HRes.out _ (HB2.out)
  | range =>
    obtain ⟨tp, p, hv⟩ := h.rng
    have HA := Lib.hid (si_strconv_Atoi_range_var s hs ha tp p w hv)
    have HN : Hid (numP s.data.toList = none) := Lib.hid (by unfold numP; rw [ha])
    obtain ⟨k, hk⟩ : ∃ k, k = Lib.atoiSat s.data.toList := ⟨_, rfl⟩
    rw [← hk] at HA
    clear h ha hv hk
    go_enter Tryz.func46, Tryz.ntmps46
    go_wp2_with fail
    refine HA.out.mono ?_
    rintro e w1 ⟨N, rfl, -, -, hb⟩
    have HB := Lib.hid hb
    clear hb
    go_wp2
    go_ret2
    exact ⟨_, _, rfl, (by intro c; cases c), fun _ => HN.out, HB.out⟩
  | _ =>
    obtain ⟨tp, p, hv⟩ := h.syn
    have HA := Lib.hid (si_strconv_Atoi_syntax_var s hs ha tp p w hv)
    have HN : Hid (numP s.data.toList = none) := Lib.hid (by unfold numP; rw [ha])
    clear h ha hv
    go_enter Tryz.func46, Tryz.ntmps46
    go_wp2_with fail
    refine HA.out.mono ?_
    rintro e w1 ⟨N, rfl, -, -, hb⟩
    have HB := Lib.hid hb
    clear hb
    go_wp2
    go_ret2
    exact ⟨_, _, rfl, (by intro c; cases c), fun _ => HN.out, HB.out⟩
end Go.Proofs.YtfejlkgddnamoaaGreatDoor
end

section
namespace Go.Proofs.YtfejlkgddnamoaaGreatDoor
open Go Go.RowKit NumPlain SpPlain

theorem split_any (s : ByteArray) (w : World) (h : MaxL w) (hs : s.size < 4294967281) :
    Calls Tryz.prog 47 #[.string s, .string ⟨#[32]⟩] w fun e w' => ∃ g, e = .returned (.slice (some ⟨g, 0, none⟩) (splitSp s.data.toList).length (splitSp s.data.toList).length) ∧
      (∀ i, i < (splitSp s.data.toList).length → w'.cell? ⟨g, i, none⟩ = some (.string ⟨((splitSp s.data.toList).getD i []).toArray⟩)) ∧ Below w.heap.size w w' := by
  obtain ⟨m, hm⟩ := h
  have h1 : 1 ≤ (⟨#[32]⟩ : ByteArray).size := by decide
  have hw := words_is s
  have hl : (splitSp s.data.toList).length = Lib.countB s ⟨#[32]⟩ + 1 := by
    rw [← hw, List.length_map]
    exact Lib.splitB_all ⟨#[32]⟩ h1 0 _ s rfl
  refine (Any.strings_Split { si_laysM146 with } si_laysM146.i9 s ⟨#[32]⟩ m w hs hm h1).mono ?_
  rintro e w' ⟨rfl, rfl⟩
  refine ⟨w.heap.size, by rw [hl], fun i hi => ?_, (Below.refl _ w).alloc (Nat.le_refl _) _⟩
  have hn := heap_alloc_new w (.cells ((Lib.splitB ⟨#[32]⟩ 0 (Lib.countB s ⟨#[32]⟩) s).map Value.string).toArray (si_laysM146_ren.t 9))
  have hi2 : i < (Lib.splitB ⟨#[32]⟩ 0 (Lib.countB s ⟨#[32]⟩) s).length := by rw [← hw, List.length_map] at hi; exact hi
  unfold World.cell?
  simp only [hn]
  simp only [List.getElem?_toArray, List.getElem?_map, List.getElem?_eq_getElem hi2, Option.map_some]
  rw [← hw, List.getD_eq_getElem?_getD, List.getElem?_map, List.getElem?_eq_getElem hi2]
  rfl
theorem last_any (s : List UInt8) (hs : s.length < 4611686018427387904) (w : World) :
    Calls Tryz.prog 45 #[.string ⟨s.toArray⟩, .int .u8 32] w fun e w' => e = .returned (.int .i64 (Lib.lastIndexByte ⟨s.toArray⟩ 32)) ∧ w = w' :=
  (si_strings_LastIndexByte ⟨s.toArray⟩ 32 (by simpa [ByteArray.size] using hs) w).mono fun e w' ⟨h, h'⟩ => ⟨h, h'.symm⟩
end Go.Proofs.YtfejlkgddnamoaaGreatDoor
end

section
namespace Go.Proofs.YtfejlkgddnamoaaGreatDoor
open Go Go.RowKit SimPlain HeapPlain BookPlain NumPlain SpPlain

theorem BookS.at {w w1 : World} {B S : Nat} {F : Nat → Prop} {st : St} {i : Nat} (h : BookS w B S F st i) (hB : B ≤ w.heap.size) (b : Below w.heap.size w w1) : BookS w1 B S (Grow F w w1) st i :=
  ⟨(h.book.only (only_of_below b (fun _ => False)) (fun _ _ c => c)).grow w hB, h.many, h.lo, h.hi, h.txt⟩
theorem BookS.later {w : World} {B S : Nat} {F : Nat → Prop} {st : St} {i : Nat} (h : BookS w B S F st i) : BookS w B S F st (i + 1) :=
  ⟨h.book, h.many, h.lo, by have := h.hi; omega, by have := h.txt; omega⟩
def LineRes (B S : Nat) (F : Nat → Prop) (i : Nat) (r : St × Int) (w : World) (e : Ending) (w' : World) : Prop :=
  e = .returned (errV 56 r.2) ∧ BookS w' B S (Grow F w w') r.1 (i + 1) ∧ Only w w' F
theorem LineRes.stay {w w1 : World} {B S : Nat} {F : Nat → Prop} {st : St} {i : Nat} (h : BookS w B S F st i) (hB : B ≤ w.heap.size) (b : Below w.heap.size w w1) (c : Int) {v : Value} (hv : v = errV 56 c) :
    LineRes B S F i (st, c) w (.returned v) w1 := ⟨by rw [hv], (h.at hB b).later, only_of_below b F⟩
theorem LineRes.on {w w1 w2 : World} {B S : Nat} {F : Nat → Prop} {st : St} {i : Nat} (b : Below w.heap.size w w1) (c : Int) {v : Value} (hv : v = errV 56 c)
    (hS : BookS w2 B S (Grow (Grow F w w1) w1 w2) st (i + 1)) (o : Only w1 w2 (Grow F w w1)) : LineRes B S F i (st, c) w (.returned v) w2 := by
  refine ⟨by rw [hv], ?_, ?_⟩
  · rw [Grow.trans b.size o.size] at hS; exact hS
  · exact (only_of_below b F).trans o (fun j hj c => c.elim id (fun d => absurd d.1 (by omega)))
theorem BookS.pop_any {w : World} {B S : Nat} {F : Nat → Prop} {st : St} {i : Nat} (h : BookS w B S F st i) (hi : i ≤ 1100000) (hB : B ≤ w.heap.size) (ht : Tab w) :
    Calls Tryz.prog 14 #[.pointer (some ⟨S, 0, none⟩)] w fun e w' => ∃ k d, e = .returned (.tuple #[.agg #[.int .i64 k, .int .i64 d], errV 56 (popS st).2]) ∧ BookS w' B S (Grow F w w') (popS st).1 (i + 1) ∧ Only w w' F := by
  obtain ⟨q, seq, T⟩ := st
  obtain ⟨hq, hm, hl, hh, hx⟩ := h
  simp only at hq hm hl hh hx
  cases q with
  | nil =>
    refine (BPop_none S B F seq T w hq).mono ?_
    rintro e w' ⟨rfl, b⟩
    exact ⟨_, _, rfl, ⟨(hq.only (only_of_below b (fun _ => False)) (fun _ _ c => c)).grow w hB, hm, hl, by show seq ≤ _; omega, by show T.length ≤ _; omega⟩, only_of_below b F⟩
  | cons x q =>
    refine (BPop_some S B F x q seq T w hq (by simp at hm; omega) hB ht (by omega)).mono ?_
    rintro e w' ⟨rfl, hQ, ho⟩
    have h2 := lineB_len popB (by decide)
    exact ⟨_, _, rfl, ⟨hQ, by show q.length ≤ 60; simp at hm; omega, hl, by show seq ≤ _; omega, by show (T ++ lineB popB).length ≤ _; rw [List.length_append]; omega⟩, ho⟩
set_option maxRecDepth 100000 in
set_option maxHeartbeats 4000000 in
theorem BookS.line {w : World} {B S : Nat} {F : Nat → Prop} {st : St} {i : Nat} (h : BookS w B S F st i) (hi : i ≤ 1100000) (hB : B ≤ w.heap.size) (hB2 : 3 < B) (env : Env w) (s : List UInt8) (hs : s.length ≤ 2000000) :
    Calls Tryz.prog 28 #[.pointer (some ⟨S, 0, none⟩), .string ⟨s.toArray⟩] w fun e w' => LineRes B S F i (lineP st s) w e w' := by
  have hLast := last_any s (by omega) w
  obtain ⟨Y, hY⟩ : ∃ Y : ByteArray, Y = ⟨s.toArray⟩ := ⟨_, rfl⟩
  have hYs : Y.size = s.length := by rw [hY]; simp [ByteArray.size]
  have hYd : Y.data.toList = s := by rw [hY]
  rw [← hY] at hLast ⊢
  have HS := Lib.hid h
  have HE := Lib.hid env
  have HB := Lib.hid hB
  have stay : Hid (∀ (c : Int) w1, Below w.heap.size w w1 → lineP st s = (st, c) → ∀ v, v = errV 56 c → LineRes B S F i (lineP st s) w (.returned v) w1) := Lib.hid fun c w1 b e v hv => by
    rw [e]; exact LineRes.stay HS.out HB.out b c hv
  rcases last_cases s with ⟨h1, h2, _⟩ | ⟨j, h1, h2, h3, -, -⟩
  · have hl : Hid (lineP st s = (st, 2)) := Lib.hid (by unfold lineP; rw [h1])
    rw [← hY] at h2
    rw [h2] at hLast
    have HLast := Lib.hid hLast
    clear hLast h env hB hYs hYd hY h1 h2
    go_enter Tryz.func28, Tryz.ntmps28
    go_wp2_with fail
    refine HLast.out.mono ?_
    rintro e w1 ⟨rfl, rfl⟩
    go_wp2
    go_ret
    exact stay.out 2 _ (Below.refl _ _) hl.out _ (errV_bad (by decide)).symm
  · rw [← hY] at h2
    rw [h2] at hLast
    have hjY : j + 1 ≤ Y.size := by omega
    have hjI : (0 : Int) ≤ (j : Int) := by omega
    have hsz : Y.size ≤ 9223372036854775806 := by omega
    have hNum : ∀ W, Below w.heap.size w W → Calls Tryz.prog 46 #[.string (Y.extract (j + 1) Y.size)] W fun e w' => NumRes (s.drop (j + 1)) W e w' := fun W b => by
      have hx : (Y.extract (j + 1) Y.size).data.toList = s.drop (j + 1) := by
        rw [Lib.extract_data, hYd, hYs]; exact List.take_of_length_le (by simp)
      have h := number_any (Y.extract (j + 1) Y.size) (by rw [Lib.size_eq, hx, List.length_drop]; omega) W (env.to b)
      rw [hx] at h; exact h
    have hzd : (Y.extract 0 j).data.toList = s.take j := by rw [Lib.extract_data, hYd]; simp
    have hzs : (Y.extract 0 j).size ≤ 2000000 := by rw [Lib.size_eq, hzd, List.length_take]; omega
    obtain ⟨ws, hws⟩ : ∃ ws, ws = splitSp (s.take j) := ⟨_, rfl⟩
    obtain ⟨m, hm⟩ : ∃ m, m = sumB (s.take j) := ⟨_, rfl⟩
    have hSum : ∀ W, Calls Tryz.prog 40 #[.string (Y.extract 0 j)] W fun e w' => e = .returned (.int .i64 (m : Nat)) ∧ Below W.heap.size W w' := fun W => by
      have h := sum_any (Y.extract 0 j) W hzs
      rw [hzd, ← hm] at h; exact h
    have hSplit : ∀ W, Below w.heap.size w W → Calls Tryz.prog 47 #[.string (Y.extract 0 j), .string ⟨#[32]⟩] W fun e w' => ∃ g, e = .returned (.slice (some ⟨g, 0, none⟩) ws.length ws.length) ∧
      (∀ i, i < ws.length → w'.cell? ⟨g, i, none⟩ = some (.string ⟨(ws.getD i []).toArray⟩)) ∧ Below W.heap.size W w' := fun W b => by
      have h := split_any (Y.extract 0 j) W (env.to b).max (by omega)
      rw [hzd, ← hws] at h; exact h
    have hl : lineP st s = match numP (s.drop (j + 1)) with
      | none => (st, 2)
      | some n => if n = (m : Nat) then wordsP st ws else (st, 7) := by
      unfold lineP; rw [h1, hws, hm]; rfl
    have hwl : ∀ k, (ws.getD k []).length ≤ 2000000 := fun k => by
      rcases Nat.lt_or_ge k ws.length with c | c
      · have hm : ws.getD k [] ∈ splitSp (s.take j) := by
          rw [← hws, List.getD_eq_getElem?_getD, List.getElem?_eq_getElem c]; exact List.getElem_mem c
        have := splitSp_le _ _ hm
        rw [List.length_take] at this; omega
      · rw [List.getD_eq_getElem?_getD, List.getElem?_eq_none c]; simp
    have HWl := Lib.hid hwl
    have HL := Lib.hid hl
    have HNum := Lib.hid hNum
    have HSum := Lib.hid hSum
    have HSplit := Lib.hid hSplit
    have HLast := Lib.hid hLast
    have Hi := Lib.hid hi
    have HB2 := Lib.hid hB2
    clear hLast h env hB hYs hYd hY h1 h2 hNum hSum hSplit hl hzd hzs hws hm h3 hs hi hB2 hwl
    go_enter Tryz.func28, Tryz.ntmps28
    go_wp2_with fail
    refine HLast.out.mono ?_
    rintro e w1 ⟨rfl, rfl⟩
    go_wp2_with fail
    refine (HNum.out _ (Below.refl _ _)).mono ?_
    rintro e w1 ⟨n, b, rfl, ht, hf, hb1⟩
    have HB1 := Lib.hid hb1
    clear hb1
    cases b with
    | false =>
      have hl : Hid (lineP st s = (st, 2)) := Lib.hid (by rw [HL.out, hf rfl])
      clear ht hf
      go_wp2
      go_ret
      exact stay.out 2 _ HB1.out hl.out _ (errV_bad (by decide)).symm
    | true =>
      have hn := ht rfl
      have hl2 : Hid (lineP st s = if n = (m : Nat) then wordsP st ws else (st, 7)) := Lib.hid (by rw [HL.out, hn])
      clear ht hf hn
      go_wp2_with fail
      refine (HSum.out _).mono ?_
      rintro e w2 ⟨rfl, hb2⟩
      have HB2' : Hid (Below w.heap.size w w2) := Lib.hid (HB1.out.trans (hb2.mono HB1.out.size))
      clear hb2
      by_cases hnm : n = (m : Nat)
      · subst hnm
        have hl3 : Hid (lineP st s = wordsP st ws) := Lib.hid (by rw [hl2.out, if_pos rfl])
        go_wp2_with fail
        refine (HSplit.out _ HB2'.out).mono ?_
        rintro e w3 ⟨g, rfl, hcs, hb3⟩
        have HB3 : Hid (Below w.heap.size w w3) := Lib.hid (HB2'.out.trans (hb3.mono HB2'.out.size))
        have HCs := Lib.hid hcs
        obtain ⟨nw, hnw⟩ : ∃ nw, nw = ws.length := ⟨_, rfl⟩
        have HNw := Lib.hid hnw
        rw [← hnw]
        clear hb3 hcs hnw
        by_cases h1 : nw = 1
        · have hc0 : w3.cell? ⟨g, 0, none⟩ = some (.string ⟨(ws.getD 0 []).toArray⟩) := HCs.out 0 (by have := HNw.out; omega)
          by_cases h0 : ws.getD 0 [] = popB
          · have hc00 : w3.cell? ⟨g, 0, none⟩ = some (.string ⟨#[112, 111, 112]⟩) := by rw [hc0, h0]; rfl
            have hl4 : Hid (lineP st s = popS st) := Lib.hid (by rw [hl3.out]; unfold wordsP; rw [if_pos ⟨by rw [← HNw.out]; exact h1, h0⟩])
            have HPop := Lib.hid (((HS.out.at HB.out HB3.out).pop_any Hi.out (Nat.le_trans HB.out HB3.out.size) (HE.out.to HB3.out).tab))
            obtain ⟨code, hcode⟩ : ∃ c, c = (popS st).2 := ⟨_, rfl⟩
            rw [← hcode] at HPop
            have HCode := Lib.hid hcode
            subst h1
            clear hc0 h0 hcode
            go_wp2_with fail
            refine HPop.out.mono ?_
            rintro e w4 ⟨k, d, rfl, hS4, o4⟩
            have HS4 := Lib.hid hS4
            have HO4 := Lib.hid o4
            clear hS4 o4
            go_wp2
            go_ret
            rw [hl4.out]
            have b4 : Below w4.heap.size w4 (w4.alloc (.cells #[.int .i64 k, .int .i64 d] 30)) := (Below.refl _ _).alloc (Nat.le_refl _) _
            have hS5 := HS4.out.at (Nat.le_trans HB.out (Nat.le_trans HB3.out.size HO4.out.size)) b4
            rw [Grow.trans HO4.out.size b4.size] at hS5
            exact LineRes.on (st := (popS st).1) HB3.out (popS st).2 (congrArg (errV 56) HCode.out) hS5 (HO4.out.trans (only_of_below b4 (fun _ => False)) (fun _ _ c => c.elim))
          · have hne : ((⟨(ws.getD 0 []).toArray⟩ : ByteArray).toList == [112, 111, 112]) = false := by
              rw [beq_eq_false_iff_ne, toList_dt]; exact h0
            have hl4 : Hid (lineP st s = (st, 2)) := Lib.hid (by
              rw [hl3.out]; unfold wordsP
              rw [if_neg (fun c => h0 c.2), if_neg (fun c => by have := HNw.out; omega)])
            obtain ⟨Y0, hY0⟩ : ∃ Y0 : ByteArray, Y0 = ⟨(ws.getD 0 []).toArray⟩ := ⟨_, rfl⟩
            rw [← hY0] at hc0 hne
            subst h1
            clear hY0 h0
            go_wp2
            go_ret
            exact stay.out 2 _ HB3.out hl4.out _ (errV_bad (by decide)).symm
        · have h1b : ((nw : Int) == 1) = false := by rw [beq_eq_false_iff_ne]; omega
          have h1c : ¬ (nw : Int) = 1 := by omega
          by_cases h3 : nw = 3
          · have hc0 : w3.cell? ⟨g, 0, none⟩ = some (.string ⟨(ws.getD 0 []).toArray⟩) := HCs.out 0 (by have := HNw.out; omega)
            have hc1 : w3.cell? ⟨g, 1, none⟩ = some (.string ⟨(ws.getD 1 []).toArray⟩) := HCs.out 1 (by have := HNw.out; omega)
            have hc2 : w3.cell? ⟨g, 2, none⟩ = some (.string ⟨(ws.getD 2 []).toArray⟩) := HCs.out 2 (by have := HNw.out; omega)
            by_cases h0 : ws.getD 0 [] = pushW
            · have hc00 : w3.cell? ⟨g, 0, none⟩ = some (.string ⟨#[112, 117, 115, 104]⟩) := by rw [hc0, h0]; rfl
              have hl4 : Hid (lineP st s = match numP (ws.getD 1 []), numP (ws.getD 2 []) with
                | some k, some i => (pushS st ⟨k, i, 0⟩, pcode st ⟨k, i, 0⟩)
                | _, _ => (st, 2)) := Lib.hid (by
                rw [hl3.out]; unfold wordsP
                rw [if_neg (fun c => by have := HNw.out; omega), if_pos ⟨by have := HNw.out; omega, h0⟩]; rfl)
              have hN : ∀ k W, Below w.heap.size w W → Calls Tryz.prog 46 #[.string ⟨(ws.getD k []).toArray⟩] W fun e w' => NumRes (ws.getD k []) W e w' := fun k W b =>
                number_any ⟨(ws.getD k []).toArray⟩ (by have := HWl.out k; rw [mk_size]; omega) W (HE.out.to b)
              obtain ⟨u1, hu1⟩ : ∃ u, u = ws.getD 1 [] := ⟨_, rfl⟩
              obtain ⟨u2, hu2⟩ : ∃ u, u = ws.getD 2 [] := ⟨_, rfl⟩
              have HN1 : Hid (∀ W, Below w.heap.size w W → Calls Tryz.prog 46 #[.string ⟨u1.toArray⟩] W fun e w' => NumRes u1 W e w') := Lib.hid (by rw [hu1]; exact hN 1)
              have HN2 : Hid (∀ W, Below w.heap.size w W → Calls Tryz.prog 46 #[.string ⟨u2.toArray⟩] W fun e w' => NumRes u2 W e w') := Lib.hid (by rw [hu2]; exact hN 2)
              rw [← hu1] at hc1 hl4
              rw [← hu2] at hc2 hl4
              have hgl : g < w3.heap.size := World.block_lt_of_cell? w3 _ hc0
              have HG := Lib.hid hgl
              have HC2 := Lib.hid hc2
              obtain ⟨Y1, hY1⟩ : ∃ Y1 : ByteArray, Y1 = ⟨u1.toArray⟩ := ⟨_, rfl⟩
              obtain ⟨Y2, hY2⟩ : ∃ Y2 : ByteArray, Y2 = ⟨u2.toArray⟩ := ⟨_, rfl⟩
              rw [← hY1] at hc1 HN1
              rw [← hY2] at HC2 HN2
              subst h3
              clear hN h0 hc0 hc2 h1 hu1 hu2 hgl hY1 hY2
              go_wp2_with fail
              refine (HN1.out _ HB3.out).mono ?_
              rintro e w4 ⟨k1, b1, rfl, ht1, hf1, hb4⟩
              have HB4 : Hid (Below w.heap.size w w4) := Lib.hid (HB3.out.trans (hb4.mono HB3.out.size))
              have hc2 : w4.cell? ⟨g, 2, none⟩ = some (.string Y2) := (hb4.cell (p := ⟨g, 2, none⟩) HG.out).trans HC2.out
              have HT1 := Lib.hid ht1
              have HF1 := Lib.hid hf1
              clear hb4 ht1 hf1
              go_wp2_with fail
              refine (HN2.out _ HB4.out).mono ?_
              rintro e w5 ⟨k2, b2, rfl, ht2, hf2, hb5⟩
              have HB5 : Hid (Below w.heap.size w w5) := Lib.hid (HB4.out.trans (hb5.mono HB4.out.size))
              have HT2 := Lib.hid ht2
              have HF2 := Lib.hid hf2
              clear hb5 ht2 hf2 hc2 hc1 hc00
              cases b1 with
              | false =>
                have hl5 : Hid (lineP st s = (st, 2)) := Lib.hid (by rw [hl4.out, HF1.out rfl])
                go_wp2
                go_ret
                exact stay.out 2 _ HB5.out hl5.out _ (errV_bad (by decide)).symm
              | true =>
                cases b2 with
                | false =>
                  have hl5 : Hid (lineP st s = (st, 2)) := Lib.hid (by rw [hl4.out, HF2.out rfl, HT1.out rfl])
                  go_wp2
                  go_ret
                  exact stay.out 2 _ HB5.out hl5.out _ (errV_bad (by decide)).symm
                | true =>
                  have hl5 : Hid (lineP st s = (pushS st ⟨k1, k2, 0⟩, pcode st ⟨k1, k2, 0⟩)) := Lib.hid (by rw [hl4.out, HT1.out rfl, HT2.out rfl])
                  have HPush := Lib.hid ((HS.out.at HB.out HB5.out).push_any Hi.out (Nat.le_trans HB.out HB5.out.size) HB2.out (HE.out.to HB5.out).tab k1 k2)
                  obtain ⟨code, hcode⟩ : ∃ c, c = pcode st ⟨k1, k2, 0⟩ := ⟨_, rfl⟩
                  rw [← hcode] at HPush
                  have HCode := Lib.hid hcode
                  clear hcode
                  go_wp2_with fail
                  refine HPush.out.mono ?_
                  rintro e w6 ⟨rfl, hS6, o6⟩
                  have HS6 := Lib.hid hS6
                  have HO6 := Lib.hid o6
                  clear hS6 o6
                  go_wp2
                  go_ret
                  rw [hl5.out]
                  exact LineRes.on HB5.out _ (congrArg (errV 56) HCode.out) HS6.out HO6.out
            · have hne : ((⟨(ws.getD 0 []).toArray⟩ : ByteArray).toList == [112, 117, 115, 104]) = false := by
                rw [beq_eq_false_iff_ne, toList_dt]; exact h0
              have hl4 : Hid (lineP st s = (st, 2)) := Lib.hid (by
                rw [hl3.out]; unfold wordsP
                rw [if_neg (fun c => by have := HNw.out; omega), if_neg (fun c => h0 c.2)])
              obtain ⟨Y0, hY0⟩ : ∃ Y0 : ByteArray, Y0 = ⟨(ws.getD 0 []).toArray⟩ := ⟨_, rfl⟩
              rw [← hY0] at hc0 hne
              subst h3
              clear hY0 h0 hc1 hc2 h1
              go_wp2
              go_ret
              exact stay.out 2 _ HB3.out hl4.out _ (errV_bad (by decide)).symm
          · have h3b : ((nw : Int) == 3) = false := by rw [beq_eq_false_iff_ne]; omega
            have h3c : ¬ (nw : Int) = 3 := by omega
            have hl4 : Hid (lineP st s = (st, 2)) := Lib.hid (by
              rw [hl3.out]; unfold wordsP
              rw [if_neg (fun c => by have := HNw.out; omega), if_neg (fun c => by have := HNw.out; omega)])
            clear h1 h3
            go_wp2
            go_ret
            exact stay.out 2 _ HB3.out hl4.out _ (errV_bad (by decide)).symm
      · have hl3 : Hid (lineP st s = (st, 7)) := Lib.hid (by rw [hl2.out, if_neg hnm])
        have hnb : (n == (m : Int)) = false := by rw [beq_eq_false_iff_ne]; exact hnm
        go_wp2
        go_ret
        exact stay.out 7 _ HB2'.out hl3.out _ (errV_bad (by decide)).symm
end Go.Proofs.YtfejlkgddnamoaaGreatDoor
end

section
namespace Go.Proofs.YtfejlkgddnamoaaGreatDoor
open Go Go.RowKit

theorem Only.putObj (w : World) (l : Nat) (o : Obj) (own : Nat → Prop) (h : own l) : Only w (w.putObj l o) own := by
  have g := grownBy_putObj' w l o
  exact ⟨g.os, g.tape, g.output, g.size, fun k hk hn => g.block k hk (fun e => hn (by cases e; exact h))⟩
/-- the iterator's contract: it gives L, one after the other, and stores into the block bs alone -/
def SeqL {α : Type} (F : Fence) (n : Nat) (P : Program) (g : Nat) (lb : Array Value) (bs : Nat) (encs : α → Array Value) (L : List α) (w : World) : Prop :=
  ∀ (l : Nat) (J Jx : List α → World → Prop) (W : World), W.heap[bs]? = w.heap[bs]? →
    (∀ s A B, J s A → Only A B (fun k => k = bs) → J s B) → (∀ s A B, Jx s A → Only A B (fun k => k = bs) → Jx s B) →
    (∀ pre x W1, J pre W1 → pre ++ [x] <+: L → YieldAt F (n - 1) P l (encs x) W1 fun e W' =>
      (e = .returned (.bool true) ∧ J (pre ++ [x]) W' ∧ W'.heap[bs]? = W1.heap[bs]?) ∨ (e = .returned (.bool false) ∧ Jx (pre ++ [x]) W')) →
    J [] W →
    CallsIn F n P g (#[.func (.yield l) #[] #[]] ++ lb) W fun e W' => (∃ v, e = .returned v) ∧ (J L W' ∨ ∃ pre, pre <+: L ∧ Jx pre W')
/-- how the body may be left -/
def postL {α : Type} (bs B : Nat) (I : List α → World → Prop) (Ix : Code → List α → World → Prop) (xs : List α) (W : World) : Exit → Act → World → Prop
  | .normal, _, W' => (W'.heap[bs]? = W.heap[bs]? ∧ W'.heap[B]? = W.heap[B]? ∧ W'.heap[B + 1]? = W.heap[B + 1]?) ∧ I xs W'
  | .ret, _, W' => (W'.heap[bs]? = W.heap[bs]? ∧ W'.heap[B]? = W.heap[B]? ∧ W'.heap[B + 1]? = W.heap[B + 1]?) ∧ Ix .ret xs W'
  | .exit id, _, W' => (W'.heap[bs]? = W.heap[bs]? ∧ W'.heap[B]? = W.heap[B]? ∧ W'.heap[B + 1]? = W.heap[B + 1]?) ∧ Ix (.exit id) xs W'
  | .goto t, _, W' => (W'.heap[bs]? = W.heap[bs]? ∧ W'.heap[B]? = W.heap[B]? ∧ W'.heap[B + 1]? = W.heap[B + 1]?) ∧ Ix (.goto t) xs W'
  | .panic _, _, _ => False
  | .outgrown, _, _ => False
theorem wpIn_seqL {F : Fence} {n : Nat} {P : Program} {α : Type} {g : Operand} {ps : Array Tmp} {assign body : Code} {Q : Exit → Act → World → Prop} {a : Act} {w : World}
    (hro : F.round = none) (h1 : 1 ≤ n) {gf : Nat} {lb : Array Value} (hg : a.eval g = .func (.func gf) #[] lb) (hFg : F.fn gf) (eg : ∀ args w, (callFunc gf args).run P w = .ok (.enter gf args) w)
    {encs : α → Array Value} {bs : Nat} {L : List α} (hbs : bs < w.heap.size) (hseq : SeqL F (n - 1) P gf lb bs encs L w) (hps : ∀ x, (encs x).size = ps.size)
    (I : List α → World → Prop) (Ix : Code → List α → World → Prop) (hI : ∀ s A B, I s A → Only A B (fun k => k = bs ∨ k = w.heap.size ∨ k = w.heap.size + 1) → I s B)
    (hIx : ∀ c s A B, Ix c s A → Only A B (fun k => k = bs ∨ k = w.heap.size ∨ k = w.heap.size + 1) → Ix c s B) (h0 : ∀ W1, Only w W1 (fun _ => False) → W1.heap.size = w.heap.size + 2 → I [] W1) (a₁ : α → Act)
    (hassign : ∀ (l : Nat) (x : α) (W : World) (K : Act → World → Prop), K (a₁ x) W →
      assign.wpIn (F.inRound l) (n - 1 - 1) P (Exit.then K (fun _ _ _ => False)) { tmps := (ps.zip (encs x)).foldl (fun t (p, v) => t.setIfInBounds p v) a.tmps, defers := [] } W)
    (hbody : ∀ (l : Nat) (pre : List α) (x : α) (W : World), I pre W → pre ++ [x] <+: L → w.heap.size + 2 ≤ W.heap.size → body.wpIn (F.inRound l) (n - 1 - 1) P (postL bs w.heap.size I Ix (pre ++ [x]) W) (a₁ x) W)
    (hdone : ∀ (W : World), I L W → W.heap[w.heap.size]? = some (.deferred (some [])) → Q .normal { a with defers := { target := .collected w.heap.size, args := #[] } :: a.defers } W)
    (hstop : ∀ (c : Code) (pre : List α) (W : World), pre <+: L → Ix c pre W → W.heap[w.heap.size]? = some (.deferred (some [])) → c.wpIn F n P Q { a with defers := { target := .collected w.heap.size, args := #[] } :: a.defers } W) :
    (Code.rangeFunc g ps assign body).wpIn F n P Q a w := by
  refine wpIn_rangeFunc ?_
  intro fn hfn
  rw [hro]
  obtain ⟨rec, hrec⟩ : ∃ rec : LoopState → Option Code → Loop, rec = fun st pe => { state := st, pending := pe, fn, tmps := a.tmps, params := ps, assign, body, defers := w.heap.size } := ⟨_, rfl⟩
  obtain ⟨W1, hW1⟩ : ∃ W1, (w.alloc (.deferred (some []))).alloc (.loop (rec .ready none)) = W1 := ⟨_, rfl⟩
  have hL1 : W1.heap[w.heap.size + 1]? = some (.loop (rec .ready none)) := by
    rw [← hW1]; have := World.alloc_heap_new (w.alloc (.deferred (some []))) (.loop (rec .ready none)); rwa [World.size_alloc] at this
  have hK1 : W1.heap[w.heap.size]? = some (.deferred (some [])) := by
    rw [← hW1]; exact (Below.heap_alloc _ _ _ (by simp)).trans (World.alloc_heap_new w _)
  have hO1 : Only w W1 (fun _ => False) := by
    rw [← hW1]; exact (Only.alloc w _ _).trans (Only.alloc _ _ _) (fun _ _ c => c)
  have hs1 : W1.heap.size = w.heap.size + 2 := by rw [← hW1]; simp
  have hI1 : I [] W1 := h0 W1 hO1 hs1
  refine ⟨w.heap.size + 1, [{ target := .collected w.heap.size, args := #[] }], W1, { target := .fn (.func gf) lb, args := #[.func (.yield (w.heap.size + 1)) #[] #[]] }, W1, gf,
    #[.func (.yield (w.heap.size + 1)) #[] #[]] ++ lb, W1, ?_, ?_, ?_, ?_, fun _ => h1, ?_⟩
  · rw [← hW1, hrec]; exact run_enterLoop_outer _ _ _ _ _
  · simp only [resolve, hg]
    simp [go_sem]
  · intro f' hf'; simp [Target.leads] at hf'; subst hf'; exact hFg
  · simp [invoke, go_sem, eg]
  · have hne0 : w.heap.size ≠ bs := by omega
    have hne1 : w.heap.size + 1 ≠ bs := by omega
    refine (hseq (w.heap.size + 1)
      (fun pre W => I pre W ∧ W.heap[w.heap.size + 1]? = some (.loop (rec .ready none)) ∧ W.heap[w.heap.size]? = some (.deferred (some [])))
      (fun pre W => ∃ c, Ix c pre W ∧ W.heap[w.heap.size + 1]? = some (.loop (rec .done (some c))) ∧ W.heap[w.heap.size]? = some (.deferred (some [])))
      W1 (hO1.block bs hbs (fun c => c))
      (fun s A B hs o => ⟨hI s A B hs.1 (o.mono fun _ _ c => .inl c), (o.block _ (Array.getElem?_eq_some_iff.1 hs.2.1).1 (fun c => hne1 c)).trans hs.2.1, (o.block _ (Array.getElem?_eq_some_iff.1 hs.2.2).1 (fun c => hne0 c)).trans hs.2.2⟩)
      (fun s A B hs o => by
        obtain ⟨c, hc, hl, hk⟩ := hs
        exact ⟨c, hIx c s A B hc (o.mono fun _ _ c => .inl c), (o.block _ (Array.getElem?_eq_some_iff.1 hl).1 (fun c => hne1 c)).trans hl, (o.block _ (Array.getElem?_eq_some_iff.1 hk).1 (fun c => hne0 c)).trans hk⟩)
      ?_ ⟨hI1, hL1, hK1⟩).mono ?_
    · -- ONE ROUND
      rintro pre x W ⟨hi, hl, hk⟩ hpre
      have hlt : w.heap.size + 1 < W.heap.size := (Array.getElem?_eq_some_iff.1 hl).1
      have hy := run_yield (P := P) (args := encs x) hl (by rw [hrec]; exact hps x)
      rw [hrec] at hy
      refine ⟨fn, _, assign, body, hy, roundIn_of_wpIn hfn (hassign _ x W _ ⟨_, run_beginRound hl (by rw [hrec]), ?_⟩)⟩
      have hl2 : (W.putObj (w.heap.size + 1) (.loop { rec .ready none with state := .busy })).heap[w.heap.size + 1]? = some (.loop { rec .ready none with state := .busy }) := World.putObj_heap_same hlt
      have hk2 : (W.putObj (w.heap.size + 1) (.loop { rec .ready none with state := .busy })).heap[w.heap.size]? = some (.deferred (some [])) := (World.putObj_heap_other (by omega)).trans hk
      have hb2 : (W.putObj (w.heap.size + 1) (.loop { rec .ready none with state := .busy })).heap[bs]? = W.heap[bs]? := World.putObj_heap_other (by omega)
      have hi2 : I pre (W.putObj (w.heap.size + 1) (.loop { rec .ready none with state := .busy })) := hI _ _ _ hi (Only.putObj _ _ _ _ (.inr (.inr rfl)))
      refine wpIn_mono (hbody _ pre x _ hi2 hpre (by simp; omega)) ?_
      have fin : ∀ (jump : Option Code) (W3 : World), (W3.heap[bs]? = (W.putObj (w.heap.size + 1) (.loop { rec .ready none with state := .busy })).heap[bs]? ∧ W3.heap[w.heap.size]? = (W.putObj (w.heap.size + 1) (.loop { rec .ready none with state := .busy })).heap[w.heap.size]? ∧ W3.heap[w.heap.size + 1]? = (W.putObj (w.heap.size + 1) (.loop { rec .ready none with state := .busy })).heap[w.heap.size + 1]?) →
          (Instr.endRound (w.heap.size + 1) jump).run P W3 = .ok (.bool jump.isNone) (W3.putObj (w.heap.size + 1) (.loop (rec (if jump.isNone then .ready else .done) jump))) ∧
          (W3.putObj (w.heap.size + 1) (.loop (rec (if jump.isNone then .ready else .done) jump))).heap[w.heap.size + 1]? = some (.loop (rec (if jump.isNone then .ready else .done) jump)) ∧
          (W3.putObj (w.heap.size + 1) (.loop (rec (if jump.isNone then .ready else .done) jump))).heap[w.heap.size]? = some (.deferred (some [])) ∧
          (W3.putObj (w.heap.size + 1) (.loop (rec (if jump.isNone then .ready else .done) jump))).heap[bs]? = W.heap[bs]? := fun jump W3 ⟨hk3, hd3, hr3⟩ => by
        have hl3 := hr3.trans hl2
        have := run_endRound (P := P) jump hl3
        rw [hrec] at this ⊢
        exact ⟨this, World.putObj_heap_same (Array.getElem?_eq_some_iff.1 hl3).1, (World.putObj_heap_other (by omega)).trans (hd3.trans hk2), (World.putObj_heap_other (by omega)).trans (hk3.trans hb2)⟩
      rintro e a3 W3 hp
      cases e with
      | normal =>
        obtain ⟨hk3, hi3⟩ := hp
        obtain ⟨hr, hl4, hk4, hb4⟩ := fin none W3 hk3
        exact ⟨_, _, hr, .inl ⟨rfl, ⟨hI _ _ _ hi3 (Only.putObj _ _ _ _ (.inr (.inr rfl))), hl4, hk4⟩, hb4⟩⟩
      | ret =>
        obtain ⟨hk3, hi3⟩ := hp
        obtain ⟨hr, hl4, hk4, hb4⟩ := fin (some .ret) W3 hk3
        exact ⟨_, _, hr, .inr ⟨rfl, .ret, hIx _ _ _ _ hi3 (Only.putObj _ _ _ _ (.inr (.inr rfl))), hl4, hk4⟩⟩
      | exit id =>
        obtain ⟨hk3, hi3⟩ := hp
        obtain ⟨hr, hl4, hk4, hb4⟩ := fin (some (.exit id)) W3 hk3
        exact ⟨_, _, hr, .inr ⟨rfl, .exit id, hIx _ _ _ _ hi3 (Only.putObj _ _ _ _ (.inr (.inr rfl))), hl4, hk4⟩⟩
      | goto t =>
        obtain ⟨hk3, hi3⟩ := hp
        obtain ⟨hr, hl4, hk4, hb4⟩ := fin (some (.goto t)) W3 hk3
        exact ⟨_, _, hr, .inr ⟨rfl, .goto t, hIx _ _ _ _ hi3 (Only.putObj _ _ _ _ (.inr (.inr rfl))), hl4, hk4⟩⟩
      | panic ch => exact hp.elim
      | outgrown => exact hp.elim
    · -- BEHIND THE ITERATOR
      rintro e W2 ⟨⟨v, rfl⟩, (⟨hi, hl, hk⟩ | ⟨pre, hSp, c, hi, hl, hk⟩)⟩
      · exact ⟨none, _, by have := run_endLoop (P := P) hl (by rw [hrec]; simp); rw [hrec] at this; exact this, hdone _ (hI _ _ _ hi (Only.putObj _ _ _ _ (.inr (.inr rfl)))) ((World.putObj_heap_other (by omega)).trans hk)⟩
      · exact ⟨some c, _, by have := run_endLoop (P := P) hl (by rw [hrec]; simp); rw [hrec] at this; exact this, hstop c pre _ hSp (hIx c _ _ _ hi (Only.putObj _ _ _ _ (.inr (.inr rfl)))) ((World.putObj_heap_other (by omega)).trans hk)⟩
end Go.Proofs.YtfejlkgddnamoaaGreatDoor
end

section
namespace Go.Proofs.YtfejlkgddnamoaaGreatDoor
open Go Go.RowKit LinesPlain
attribute [local go_sem] Oper.semAt_some

def boxS (s : List UInt8) : Obj := .cells #[.string ⟨s.toArray⟩] 9 (0, 0)
theorem Lines_any (s : ByteArray) (w : World) : Calls Tryz.prog 26 #[.string s] w fun e w' => e = .returned (.func (.func 42) #[] #[.pointer (some ⟨w.heap.size, 0, none⟩)]) ∧ w' = w.alloc (.cells #[.string s] 9) := by
  go_enter Tryz.func26, Tryz.ntmps26
  go_wp2
  go_ret
  exact ⟨rfl, rfl⟩
def leftL (bs : Nat) (w : World) : Nat := match w.cell? ⟨bs, 0, none⟩ with
  | some (.string s) => s.size
  | _ => 0
set_option maxRecDepth 100000 in
set_option maxHeartbeats 2000000 in
theorem lines_seq (n : Nat) (hn : 1 ≤ n) (bs : Nat) (s : List UInt8) (w : World) (h : w.heap[bs]? = some (boxS s)) (hs : s.length ≤ 9223372036854775806) :
    SeqL Fence.wide n Tryz.prog 42 #[.pointer (some ⟨bs, 0, none⟩)] bs (fun x : List UInt8 => #[.string ⟨x.toArray⟩]) (linesOf s) w := fun l J Jx W hW hJ hJx hY h0 => by
  refine callsIn_of_wp Tryz.func42 rfl trivial ?_ rfl
  simp only [Tryz.ntmps42, List.size_toArray, List.length_cons, List.length_nil, Nat.reduceAdd, Nat.reduceSub, Array.replicate_succ, Array.replicate_zero, List.push_toArray, List.append_toArray, List.nil_append, List.cons_append]
  gi_wp2
  gi_loopw [3] (fun _ wr => ∃ (pre : List (List UInt8)) (r : List UInt8), linesOf s = pre ++ linesOf r ∧ r.length ≤ s.length ∧ wr.heap[bs]? = some (boxS r) ∧ J pre wr)
    (fun _ wr => leftL bs wr)
  case atStart =>
    exact ⟨[], s, rfl, Nat.le_refl _, hW.trans h, h0⟩
  case round =>
    obtain ⟨pre, r, hL, hr, hb, hJr⟩ := hrel
    have hc : wr.cell? ⟨bs, 0, none⟩ = some (.string ⟨r.toArray⟩) := by simp [World.cell?, hb, boxS]
    have hf : wr.frozen? ⟨bs, 0, none⟩ = false := by simp [World.frozen?, hb, boxS]
    obtain ⟨Y, hY0⟩ : ∃ Y : ByteArray, Y = ⟨r.toArray⟩ := ⟨_, rfl⟩
    have hYs : Y.size = r.length := by rw [hY0]; simp [ByteArray.size]
    have hYd : Y.data.toList = r := by rw [hY0]
    rw [← hY0] at hc
    have HM : Hid (leftL bs wr = Y.size) := Lib.hid (by simp [leftL, hc])
    have HL := Lib.hid hL
    have HY0 := Lib.hid hY0
    have HYd := Lib.hid hYd
    have Hs := Lib.hid hs
    have Hb := Lib.hid hb
    clear hL hY0 hYd hb h hW
    by_cases hr0 : r = []
    · have h0s : Y.size = 0 := by rw [hYs, hr0]; rfl
      clear hYs
      gi_wp2
      go_end0
      exact ⟨⟨_, rfl⟩, .inl (by rw [HL.out, hr0, linesOf_nil, List.append_nil]; exact hJr)⟩
    · have h0s : 0 < Y.size := by rw [hYs]; exact List.length_pos_iff.2 hr0
      have hcut := linesOf_cut r hr0
      have hI : ∀ W, Calls Tryz.prog 43 #[.string Y, .int .u8 10] W fun e w' => e = .returned (.int .i64 (Lib.indexByte r 10)) ∧ w' = W := fun W => by
        have h := si_strings_IndexByte Y 10 W
        rw [HYd.out] at h
        exact h
      have fin : ∀ (x r' : List UInt8), cutL r = (x, r') → ∃ W1, W1 = wr.setCell ⟨bs, 0, none⟩ (.string ⟨r'.toArray⟩) ∧ W1.heap[bs]? = some (boxS r') ∧ J pre W1 ∧ linesOf s = (pre ++ [x]) ++ linesOf r' ∧ pre ++ [x] <+: linesOf s ∧ r'.length ≤ s.length ∧ r'.length < r.length := fun x r' e => by
        have h1 : linesOf s = (pre ++ [x]) ++ linesOf r' := by rw [HL.out, hcut, e]; simp
        have h2 := cutL_len r hr0
        have h3 := cutL_sum r
        rw [e] at h2 h3
        refine ⟨_, rfl, ?_, hJ _ _ _ hJr (Only.setCell _ _ _ _ rfl), h1, ⟨linesOf r', h1.symm⟩, ?_, ?_⟩
        · have hb := Hb.out
          unfold boxS at hb
          exact Lib.heap_setCell_same hb _
        · simp at h2 h3; omega
        · simp at h2 h3; omega
      rcases indexByte_cut r with ⟨h1, h2⟩ | ⟨i, h1, h2, h3⟩
      · obtain ⟨W1, hW1, hb1, hJ1, hL1, hp1, hs1, hlt1⟩ := fin r [] h2
        obtain ⟨fn, tmps, assign, body, hy, hR⟩ := hY pre r W1 hJ1 hp1
        rw [← HY0.out] at hy
        rw [h1] at hI
        have HI := Lib.hid hI
        have HR := Lib.hid hR
        have HL1 := Lib.hid hL1
        have HB1 := Lib.hid hb1
        clear hI hR hL1 fin hcut h2 hb1
        subst hW1
        gi_wp2_with (refine ⟨trivial, ?_⟩; gi_at_call 43; refine (callsIn_wide.2 (HI.out _)).mono ?_; rintro e w' ⟨rfl, hw'⟩; subst hw')
        refine HR.out.mono ?_
        rintro e W' (⟨rfl, hJ', hk⟩ | ⟨rfl, hJx'⟩)
        · gi_wp2
          go_roundw
          case rel => exact ⟨pre ++ [r], [], HL1.out, Nat.zero_le _, hk.trans HB1.out, hJ'⟩
          case measure =>
            have e1 : leftL bs W' = 0 := by
              have := hk.trans HB1.out
              simp [leftL, World.cell?, this, boxS, ByteArray.size]
            rw [e1, HM.out]; exact h0s
        · gi_wp2
          refine bodyPost_ret (results_none rfl _ _ _) rfl ?_
          exact ⟨⟨_, rfl⟩, .inr ⟨pre ++ [r], hp1, hJx'⟩⟩
      · obtain ⟨W1, hW1, hb1, hJ1, hL1, hp1, hs1, hlt1⟩ := fin (r.take (i + 1)) (r.drop (i + 1)) h3
        obtain ⟨fn, tmps, assign, body, hy, hR⟩ := hY pre _ W1.drew (hJ _ _ _ hJ1 ((Only.refl W1 _).drewN 1)) hp1
        have hi2 : i + 1 ≤ Y.size := by rw [hYs]; omega
        have hiI : (0 : Int) ≤ (i : Int) := by omega
        have ex1 : (⟨(r.take (i + 1)).toArray⟩ : ByteArray) = Y.extract 0 (i + 1) := by
          apply ByteArray.ext; apply Array.toList_inj.1
          rw [Lib.extract_data, HYd.out]; simp
        have ex2 : (⟨(r.drop (i + 1)).toArray⟩ : ByteArray) = Y.extract (i + 1) Y.size := by
          apply ByteArray.ext; apply Array.toList_inj.1
          rw [Lib.extract_data, HYd.out, hYs]
          exact (List.take_of_length_le (by simp)).symm
        have hsz : Y.size ≤ 9223372036854775806 := by have := Hs.out; omega
        rw [ex1] at hy
        rw [ex2] at hW1
        rw [h1] at hI
        have HI := Lib.hid hI
        have HR := Lib.hid hR
        have HL1 := Lib.hid hL1
        have HB1 := Lib.hid hb1
        have Hlt := Lib.hid hlt1
        have Hs1 := Lib.hid hs1
        have HYs := Lib.hid hYs
        clear hI hR hL1 fin hcut h2 h3 hb1 ex1 ex2 hlt1 hs1 hYs h1
        gi_wp2_with (refine ⟨trivial, ?_⟩; gi_at_call 43; refine (callsIn_wide.2 (HI.out _)).mono ?_; rintro e w' ⟨rfl, hw'⟩; subst hw')
        have hmx : Tryz.prog.follows .mixedOrders = true := by kernel_rfl
        subst hW1
        gi_region
        gi_wp2
        refine HR.out.mono ?_
        rintro e W' (⟨rfl, hJ', hk⟩ | ⟨rfl, hJx'⟩)
        · gi_wp2
          go_roundw
          case rel => exact ⟨pre ++ [r.take (i + 1)], r.drop (i + 1), HL1.out, Hs1.out, hk.trans HB1.out, hJ'⟩
          case measure =>
            have e1 : leftL bs W' = (r.drop (i + 1)).length := by
              have := hk.trans HB1.out
              simp [leftL, World.cell?, this, boxS, ByteArray.size]
            rw [e1, HM.out, HYs.out]; exact Hlt.out
        · gi_wp2
          refine bodyPost_ret (results_none rfl _ _ _) rfl ?_
          exact ⟨⟨_, rfl⟩, .inr ⟨pre ++ [r.take (i + 1)], hp1, hJx'⟩⟩
end Go.Proofs.YtfejlkgddnamoaaGreatDoor
end
