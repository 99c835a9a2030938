/- WALK: book.line: what a line says, done. -/
import Derived.Test.YtalnepcbaegaeaaDoorBkLineP
import Derived.Test.YtalnepcbaegaeaaDoorBkSplit
set_option linter.unusedVariables false
set_option linter.unusedSimpArgs false
namespace Go.Proofs.YtalnepcbaegaeaaDoor
open Go Go.RowKit SimPlain HeapPlain BookPlain NumPlain SpPlain

theorem BookS.at {w w1 : World} {B S : Nat} {F : Nat → Prop} {st : St} {i : Nat} (h : BookS w B S F st i) (hB : B ≤ w.heap.size) (b : Below w.heap.size w w1) : BookS w1 B S (Grow F w w1) st i :=
  ⟨(h.book.only (only_of_below b (fun _ => False)) (fun _ _ c => c)).grow w hB, h.many, h.lo, h.hi, h.txt⟩
theorem BookS.later {w : World} {B S : Nat} {F : Nat → Prop} {st : St} {i : Nat} (h : BookS w B S F st i) : BookS w B S F st (i + 1) :=
  ⟨h.book, h.many, h.lo, by have := h.hi; omega, by have := h.txt; omega⟩
def LineRes (B S : Nat) (F : Nat → Prop) (i : Nat) (r : St × Int) (w : World) (e : Ending) (w' : World) : Prop :=
  e = .returned (errV 64 r.2) ∧ BookS w' B S (Grow F w w') r.1 (i + 1) ∧ Only w w' F
theorem LineRes.stay {w w1 : World} {B S : Nat} {F : Nat → Prop} {st : St} {i : Nat} (h : BookS w B S F st i) (hB : B ≤ w.heap.size) (b : Below w.heap.size w w1) (c : Int) {v : Value} (hv : v = errV 64 c) :
    LineRes B S F i (st, c) w (.returned v) w1 := ⟨by rw [hv], (h.at hB b).later, only_of_below b F⟩
theorem LineRes.on {w w1 w2 : World} {B S : Nat} {F : Nat → Prop} {st : St} {i : Nat} (b : Below w.heap.size w w1) (c : Int) {v : Value} (hv : v = errV 64 c)
    (hS : BookS w2 B S (Grow (Grow F w w1) w1 w2) st (i + 1)) (o : Only w1 w2 (Grow F w w1)) : LineRes B S F i (st, c) w (.returned v) w2 := by
  refine ⟨by rw [hv], ?_, ?_⟩
  · rw [Grow.trans b.size o.size] at hS; exact hS
  · exact (only_of_below b F).trans o (fun j hj c => c.elim id (fun d => absurd d.1 (by omega)))
theorem BookS.pop_any {w : World} {B S : Nat} {F : Nat → Prop} {st : St} {i : Nat} (h : BookS w B S F st i) (hi : i ≤ 1100000) (hB : B ≤ w.heap.size) (ht : Tab w) :
    Calls Tryd.prog 9 #[.pointer (some ⟨S, 0, none⟩)] w fun e w' => ∃ k d, e = .returned (.tuple #[.agg #[.int .i64 k, .int .i64 d], errV 64 (popS st).2]) ∧ BookS w' B S (Grow F w w') (popS st).1 (i + 1) ∧ Only w w' F := by
  obtain ⟨q, seq, T⟩ := st
  obtain ⟨hq, hm, hl, hh, hx⟩ := h
  simp only at hq hm hl hh hx
  cases q with
  | nil =>
    refine (BPop_none S B F seq T w hq).mono ?_
    rintro e w' ⟨rfl, b⟩
    exact ⟨_, _, rfl, ⟨(hq.only (only_of_below b (fun _ => False)) (fun _ _ c => c)).grow w hB, hm, hl, by show seq ≤ _; omega, by show T.length ≤ _; omega⟩, only_of_below b F⟩
  | cons x q =>
    refine (BPop_some S B F x q seq T w hq (by simp at hm; omega) hB ht (by omega)).mono ?_
    rintro e w' ⟨rfl, hQ, ho⟩
    have h2 := lineB_len popB (by decide)
    exact ⟨_, _, rfl, ⟨hQ, by show q.length ≤ 60; simp at hm; omega, hl, by show seq ≤ _; omega, by show (T ++ lineB popB).length ≤ _; rw [List.length_append]; omega⟩, ho⟩
set_option maxRecDepth 100000 in
set_option maxHeartbeats 4000000 in
theorem BookS.line {w : World} {B S : Nat} {F : Nat → Prop} {st : St} {i : Nat} (h : BookS w B S F st i) (hi : i ≤ 1100000) (hB : B ≤ w.heap.size) (hB2 : 2 < B) (env : Env w) (s : List UInt8) (hs : s.length ≤ 2000000) :
    Calls Tryd.prog 39 #[.pointer (some ⟨S, 0, none⟩), .string ⟨s.toArray⟩] w fun e w' => LineRes B S F i (lineP st s) w e w' := by
  have hLast := last_any s (by omega) w
  obtain ⟨Y, hY⟩ : ∃ Y : ByteArray, Y = ⟨s.toArray⟩ := ⟨_, rfl⟩
  have hYs : Y.size = s.length := by rw [hY]; simp [ByteArray.size]
  have hYd : Y.data.toList = s := by rw [hY]
  rw [← hY] at hLast ⊢
  have HS := Lib.hid h
  have HE := Lib.hid env
  have HB := Lib.hid hB
  have stay : Hid (∀ (c : Int) w1, Below w.heap.size w w1 → lineP st s = (st, c) → ∀ v, v = errV 64 c → LineRes B S F i (lineP st s) w (.returned v) w1) := Lib.hid fun c w1 b e v hv => by
    rw [e]; exact LineRes.stay HS.out HB.out b c hv
  rcases last_cases s with ⟨h1, h2, _⟩ | ⟨j, h1, h2, h3, -, -⟩
  · have hl : Hid (lineP st s = (st, 2)) := Lib.hid (by unfold lineP; rw [h1])
    rw [← hY] at h2
    rw [h2] at hLast
    have HLast := Lib.hid hLast
    clear hLast h env hB hYs hYd hY h1 h2
    go_enter Tryd.func39, Tryd.ntmps39
    go_wp2_with fail
    refine HLast.out.mono ?_
    rintro e w1 ⟨rfl, rfl⟩
    go_wp2
    go_ret
    exact stay.out 2 _ (Below.refl _ _) hl.out _ (errV_bad (by decide)).symm
  · rw [← hY] at h2
    rw [h2] at hLast
    have hjY : j + 1 ≤ Y.size := by omega
    have hjI : (0 : Int) ≤ (j : Int) := by omega
    have hsz : Y.size ≤ 9223372036854775806 := by omega
    have hNum : ∀ W, Below w.heap.size w W → Calls Tryd.prog 53 #[.string (Y.extract (j + 1) Y.size)] W fun e w' => NumRes (s.drop (j + 1)) W e w' := fun W b => by
      have hx : (Y.extract (j + 1) Y.size).data.toList = s.drop (j + 1) := by
        rw [Lib.extract_data, hYd, hYs]; exact List.take_of_length_le (by simp)
      have h := number_any (Y.extract (j + 1) Y.size) (by rw [Lib.size_eq, hx, List.length_drop]; omega) W (env.to b)
      rw [hx] at h; exact h
    have hzd : (Y.extract 0 j).data.toList = s.take j := by rw [Lib.extract_data, hYd]; simp
    have hzs : (Y.extract 0 j).size ≤ 2000000 := by rw [Lib.size_eq, hzd, List.length_take]; omega
    obtain ⟨ws, hws⟩ : ∃ ws, ws = splitSp (s.take j) := ⟨_, rfl⟩
    obtain ⟨m, hm⟩ : ∃ m, m = sumB (s.take j) := ⟨_, rfl⟩
    have hSum : ∀ W, Calls Tryd.prog 42 #[.string (Y.extract 0 j)] W fun e w' => e = .returned (.int .i64 (m : Nat)) ∧ Below W.heap.size W w' := fun W => by
      have h := sum_any (Y.extract 0 j) W hzs
      rw [hzd, ← hm] at h; exact h
    have hSplit : ∀ W, Below w.heap.size w W → Calls Tryd.prog 54 #[.string (Y.extract 0 j), .string ⟨#[32]⟩] W fun e w' => ∃ g, e = .returned (.slice (some ⟨g, 0, none⟩) ws.length ws.length) ∧
      (∀ i, i < ws.length → w'.cell? ⟨g, i, none⟩ = some (.string ⟨(ws.getD i []).toArray⟩)) ∧ Below W.heap.size W w' := fun W b => by
      have h := split_any (Y.extract 0 j) W (env.to b).max (by omega)
      rw [hzd, ← hws] at h; exact h
    have hl : lineP st s = match numP (s.drop (j + 1)) with
      | none => (st, 2)
      | some n => if n = (m : Nat) then wordsP st ws else (st, 7) := by
      unfold lineP; rw [h1, hws, hm]; rfl
    have hwl : ∀ k, (ws.getD k []).length ≤ 2000000 := fun k => by
      rcases Nat.lt_or_ge k ws.length with c | c
      · have hm : ws.getD k [] ∈ splitSp (s.take j) := by
          rw [← hws, List.getD_eq_getElem?_getD, List.getElem?_eq_getElem c]; exact List.getElem_mem c
        have := splitSp_le _ _ hm
        rw [List.length_take] at this; omega
      · rw [List.getD_eq_getElem?_getD, List.getElem?_eq_none c]; simp
    have HWl := Lib.hid hwl
    have HL := Lib.hid hl
    have HNum := Lib.hid hNum
    have HSum := Lib.hid hSum
    have HSplit := Lib.hid hSplit
    have HLast := Lib.hid hLast
    have Hi := Lib.hid hi
    have HB2 := Lib.hid hB2
    clear hLast h env hB hYs hYd hY h1 h2 hNum hSum hSplit hl hzd hzs hws hm h3 hs hi hB2 hwl
    go_enter Tryd.func39, Tryd.ntmps39
    go_wp2_with fail
    refine HLast.out.mono ?_
    rintro e w1 ⟨rfl, rfl⟩
    go_wp2_with fail
    refine (HNum.out _ (Below.refl _ _)).mono ?_
    rintro e w1 ⟨n, b, rfl, ht, hf, hb1⟩
    have HB1 := Lib.hid hb1
    clear hb1
    cases b with
    | false =>
      have hl : Hid (lineP st s = (st, 2)) := Lib.hid (by rw [HL.out, hf rfl])
      clear ht hf
      go_wp2
      go_ret
      exact stay.out 2 _ HB1.out hl.out _ (errV_bad (by decide)).symm
    | true =>
      have hn := ht rfl
      have hl2 : Hid (lineP st s = if n = (m : Nat) then wordsP st ws else (st, 7)) := Lib.hid (by rw [HL.out, hn])
      clear ht hf hn
      go_wp2_with fail
      refine (HSum.out _).mono ?_
      rintro e w2 ⟨rfl, hb2⟩
      have HB2' : Hid (Below w.heap.size w w2) := Lib.hid (HB1.out.trans (hb2.mono HB1.out.size))
      clear hb2
      by_cases hnm : n = (m : Nat)
      · subst hnm
        have hl3 : Hid (lineP st s = wordsP st ws) := Lib.hid (by rw [hl2.out, if_pos rfl])
        go_wp2_with fail
        refine (HSplit.out _ HB2'.out).mono ?_
        rintro e w3 ⟨g, rfl, hcs, hb3⟩
        have HB3 : Hid (Below w.heap.size w w3) := Lib.hid (HB2'.out.trans (hb3.mono HB2'.out.size))
        have HCs := Lib.hid hcs
        obtain ⟨nw, hnw⟩ : ∃ nw, nw = ws.length := ⟨_, rfl⟩
        have HNw := Lib.hid hnw
        rw [← hnw]
        clear hb3 hcs hnw
        by_cases h1 : nw = 1
        · have hc0 : w3.cell? ⟨g, 0, none⟩ = some (.string ⟨(ws.getD 0 []).toArray⟩) := HCs.out 0 (by have := HNw.out; omega)
          by_cases h0 : ws.getD 0 [] = popB
          · have hc00 : w3.cell? ⟨g, 0, none⟩ = some (.string ⟨#[112, 111, 112]⟩) := by rw [hc0, h0]; rfl
            have hl4 : Hid (lineP st s = popS st) := Lib.hid (by rw [hl3.out]; unfold wordsP; rw [if_pos ⟨by rw [← HNw.out]; exact h1, h0⟩])
            have HPop := Lib.hid (((HS.out.at HB.out HB3.out).pop_any Hi.out (Nat.le_trans HB.out HB3.out.size) (HE.out.to HB3.out).tab))
            obtain ⟨code, hcode⟩ : ∃ c, c = (popS st).2 := ⟨_, rfl⟩
            rw [← hcode] at HPop
            have HCode := Lib.hid hcode
            subst h1
            clear hc0 h0 hcode
            go_wp2_with fail
            refine HPop.out.mono ?_
            rintro e w4 ⟨k, d, rfl, hS4, o4⟩
            have HS4 := Lib.hid hS4
            have HO4 := Lib.hid o4
            clear hS4 o4
            go_wp2
            go_ret
            rw [hl4.out]
            have b4 : Below w4.heap.size w4 (w4.alloc (.cells #[.int .i64 k, .int .i64 d] 28)) := (Below.refl _ _).alloc (Nat.le_refl _) _
            have hS5 := HS4.out.at (Nat.le_trans HB.out (Nat.le_trans HB3.out.size HO4.out.size)) b4
            rw [Grow.trans HO4.out.size b4.size] at hS5
            exact LineRes.on (st := (popS st).1) HB3.out (popS st).2 (congrArg (errV 64) HCode.out) hS5 (HO4.out.trans (only_of_below b4 (fun _ => False)) (fun _ _ c => c.elim))
          · have hne : ((⟨(ws.getD 0 []).toArray⟩ : ByteArray).toList == [112, 111, 112]) = false := by
              rw [beq_eq_false_iff_ne, toList_dt]; exact h0
            have hl4 : Hid (lineP st s = (st, 2)) := Lib.hid (by
              rw [hl3.out]; unfold wordsP
              rw [if_neg (fun c => h0 c.2), if_neg (fun c => by have := HNw.out; omega)])
            obtain ⟨Y0, hY0⟩ : ∃ Y0 : ByteArray, Y0 = ⟨(ws.getD 0 []).toArray⟩ := ⟨_, rfl⟩
            rw [← hY0] at hc0 hne
            subst h1
            clear hY0 h0
            go_wp2
            go_ret
            exact stay.out 2 _ HB3.out hl4.out _ (errV_bad (by decide)).symm
        · have h1b : ((nw : Int) == 1) = false := by rw [beq_eq_false_iff_ne]; omega
          have h1c : ¬ (nw : Int) = 1 := by omega
          by_cases h3 : nw = 3
          · have hc0 : w3.cell? ⟨g, 0, none⟩ = some (.string ⟨(ws.getD 0 []).toArray⟩) := HCs.out 0 (by have := HNw.out; omega)
            have hc1 : w3.cell? ⟨g, 1, none⟩ = some (.string ⟨(ws.getD 1 []).toArray⟩) := HCs.out 1 (by have := HNw.out; omega)
            have hc2 : w3.cell? ⟨g, 2, none⟩ = some (.string ⟨(ws.getD 2 []).toArray⟩) := HCs.out 2 (by have := HNw.out; omega)
            by_cases h0 : ws.getD 0 [] = pushW
            · have hc00 : w3.cell? ⟨g, 0, none⟩ = some (.string ⟨#[112, 117, 115, 104]⟩) := by rw [hc0, h0]; rfl
              have hl4 : Hid (lineP st s = match numP (ws.getD 1 []), numP (ws.getD 2 []) with
                | some k, some i => (pushS st ⟨k, i, 0⟩, pcode st ⟨k, i, 0⟩)
                | _, _ => (st, 2)) := Lib.hid (by
                rw [hl3.out]; unfold wordsP
                rw [if_neg (fun c => by have := HNw.out; omega), if_pos ⟨by have := HNw.out; omega, h0⟩]; rfl)
              have hN : ∀ k W, Below w.heap.size w W → Calls Tryd.prog 53 #[.string ⟨(ws.getD k []).toArray⟩] W fun e w' => NumRes (ws.getD k []) W e w' := fun k W b =>
                number_any ⟨(ws.getD k []).toArray⟩ (by have := HWl.out k; rw [mk_size]; omega) W (HE.out.to b)
              obtain ⟨u1, hu1⟩ : ∃ u, u = ws.getD 1 [] := ⟨_, rfl⟩
              obtain ⟨u2, hu2⟩ : ∃ u, u = ws.getD 2 [] := ⟨_, rfl⟩
              have HN1 : Hid (∀ W, Below w.heap.size w W → Calls Tryd.prog 53 #[.string ⟨u1.toArray⟩] W fun e w' => NumRes u1 W e w') := Lib.hid (by rw [hu1]; exact hN 1)
              have HN2 : Hid (∀ W, Below w.heap.size w W → Calls Tryd.prog 53 #[.string ⟨u2.toArray⟩] W fun e w' => NumRes u2 W e w') := Lib.hid (by rw [hu2]; exact hN 2)
              rw [← hu1] at hc1 hl4
              rw [← hu2] at hc2 hl4
              have hgl : g < w3.heap.size := World.block_lt_of_cell? w3 _ hc0
              have HG := Lib.hid hgl
              have HC2 := Lib.hid hc2
              obtain ⟨Y1, hY1⟩ : ∃ Y1 : ByteArray, Y1 = ⟨u1.toArray⟩ := ⟨_, rfl⟩
              obtain ⟨Y2, hY2⟩ : ∃ Y2 : ByteArray, Y2 = ⟨u2.toArray⟩ := ⟨_, rfl⟩
              rw [← hY1] at hc1 HN1
              rw [← hY2] at HC2 HN2
              subst h3
              clear hN h0 hc0 hc2 h1 hu1 hu2 hgl hY1 hY2
              go_wp2_with fail
              refine (HN1.out _ HB3.out).mono ?_
              rintro e w4 ⟨k1, b1, rfl, ht1, hf1, hb4⟩
              have HB4 : Hid (Below w.heap.size w w4) := Lib.hid (HB3.out.trans (hb4.mono HB3.out.size))
              have hc2 : w4.cell? ⟨g, 2, none⟩ = some (.string Y2) := (hb4.cell (p := ⟨g, 2, none⟩) HG.out).trans HC2.out
              have HT1 := Lib.hid ht1
              have HF1 := Lib.hid hf1
              clear hb4 ht1 hf1
              go_wp2_with fail
              refine (HN2.out _ HB4.out).mono ?_
              rintro e w5 ⟨k2, b2, rfl, ht2, hf2, hb5⟩
              have HB5 : Hid (Below w.heap.size w w5) := Lib.hid (HB4.out.trans (hb5.mono HB4.out.size))
              have HT2 := Lib.hid ht2
              have HF2 := Lib.hid hf2
              clear hb5 ht2 hf2 hc2 hc1 hc00
              cases b1 with
              | false =>
                have hl5 : Hid (lineP st s = (st, 2)) := Lib.hid (by rw [hl4.out, HF1.out rfl])
                go_wp2
                go_ret
                exact stay.out 2 _ HB5.out hl5.out _ (errV_bad (by decide)).symm
              | true =>
                cases b2 with
                | false =>
                  have hl5 : Hid (lineP st s = (st, 2)) := Lib.hid (by rw [hl4.out, HF2.out rfl, HT1.out rfl])
                  go_wp2
                  go_ret
                  exact stay.out 2 _ HB5.out hl5.out _ (errV_bad (by decide)).symm
                | true =>
                  have hl5 : Hid (lineP st s = (pushS st ⟨k1, k2, 0⟩, pcode st ⟨k1, k2, 0⟩)) := Lib.hid (by rw [hl4.out, HT1.out rfl, HT2.out rfl])
                  have HPush := Lib.hid ((HS.out.at HB.out HB5.out).push_any Hi.out (Nat.le_trans HB.out HB5.out.size) HB2.out (HE.out.to HB5.out).tab k1 k2)
                  obtain ⟨code, hcode⟩ : ∃ c, c = pcode st ⟨k1, k2, 0⟩ := ⟨_, rfl⟩
                  rw [← hcode] at HPush
                  have HCode := Lib.hid hcode
                  clear hcode
                  go_wp2_with fail
                  refine HPush.out.mono ?_
                  rintro e w6 ⟨rfl, hS6, o6⟩
                  have HS6 := Lib.hid hS6
                  have HO6 := Lib.hid o6
                  clear hS6 o6
                  go_wp2
                  go_ret
                  rw [hl5.out]
                  exact LineRes.on HB5.out _ (congrArg (errV 64) HCode.out) HS6.out HO6.out
            · have hne : ((⟨(ws.getD 0 []).toArray⟩ : ByteArray).toList == [112, 117, 115, 104]) = false := by
                rw [beq_eq_false_iff_ne, toList_dt]; exact h0
              have hl4 : Hid (lineP st s = (st, 2)) := Lib.hid (by
                rw [hl3.out]; unfold wordsP
                rw [if_neg (fun c => by have := HNw.out; omega), if_neg (fun c => h0 c.2)])
              obtain ⟨Y0, hY0⟩ : ∃ Y0 : ByteArray, Y0 = ⟨(ws.getD 0 []).toArray⟩ := ⟨_, rfl⟩
              rw [← hY0] at hc0 hne
              subst h3
              clear hY0 h0 hc1 hc2 h1
              go_wp2
              go_ret
              exact stay.out 2 _ HB3.out hl4.out _ (errV_bad (by decide)).symm
          · have h3b : ((nw : Int) == 3) = false := by rw [beq_eq_false_iff_ne]; omega
            have h3c : ¬ (nw : Int) = 3 := by omega
            have hl4 : Hid (lineP st s = (st, 2)) := Lib.hid (by
              rw [hl3.out]; unfold wordsP
              rw [if_neg (fun c => by have := HNw.out; omega), if_neg (fun c => by have := HNw.out; omega)])
            clear h1 h3
            go_wp2
            go_ret
            exact stay.out 2 _ HB3.out hl4.out _ (errV_bad (by decide)).symm
      · have hl3 : Hid (lineP st s = (st, 7)) := Lib.hid (by rw [hl2.out, if_neg hnm])
        have hnb : (n == (m : Int)) = false := by rw [beq_eq_false_iff_ne]; exact hnm
        go_wp2
        go_ret
        exact stay.out 7 _ HB2'.out hl3.out _ (errV_bad (by decide)).symm
end Go.Proofs.YtalnepcbaegaeaaDoor
