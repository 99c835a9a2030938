/- WALK: the document's act: the line "push". -/
import Derived.Test.YtfejlkgddnamoaaGreatDoorDocActB
set_option linter.unusedVariables false
set_option linter.unusedSimpArgs false
namespace Go.Proofs.YtfejlkgddnamoaaGreatDoor
open Go Go.RowKit SimPlain HeapPlain BookPlain NumPlain SpPlain LinesPlain

set_option maxRecDepth 100000 in
set_option maxHeartbeats 8000000 in
theorem ract_push (st : St) (a : Option Addr) (c : Nat) (l : List Ev) (w : World) (h : DocS w st a c l) (j : Nat) (inv : Inv st j) (hj : j ≤ 5000) (s : List UInt8) (hs : s.length ≤ 1000000) (ws : List (List UInt8)) (hws : ws = splitSp s) (h0 : ws.getD 0 [] = pushW) (hl : ws.length = 3) :
    Calls Tryz.prog 38 #[docV st a c l, .string ⟨s.toArray⟩] w fun e w' => DActRes (wordsA st ws) w e w' := by
  have hT : st.T.length ≤ 1000000 := by have := inv.bounds.2.2.2; omega
  have HD := Lib.hid h
  have HT := Lib.hid hT
  have HInv := Lib.hid inv
  obtain ⟨n, hn⟩ : ∃ n, n = l.length := ⟨_, rfl⟩
  obtain ⟨X, hX⟩ : ∃ X : ByteArray, X = ⟨st.T.toArray⟩ := ⟨_, rfl⟩
  have hdv : docV st a c l = .agg #[.slice a n c, .string X] := by rw [hn, hX]; rfl
  have HDv := Lib.hid hdv
  have HN := Lib.hid hn
  have HX := Lib.hid hX
  rw [hdv]
  have hWords := fun W => rwords_any s (by omega) W
  unfold WRes at hWords
  rw [← hws] at hWords
  have HWords := Lib.hid hWords
  have HWl : Hid (∀ k, (ws.getD k []).length ≤ 1000000) := Lib.hid fun k => by
    rcases Nat.lt_or_ge k ws.length with c | c
    · have hm2 : ws.getD k [] ∈ splitSp s := by
        rw [← hws, List.getD_eq_getElem?_getD, List.getElem?_eq_getElem c]; exact List.getElem_mem c
      have := splitSp_le _ _ hm2
      omega
    · rw [List.getD_eq_getElem?_getD, List.getElem?_eq_none c]; simp
  have hpos : 0 < ws.length := by rw [hws]; exact splitSp_pos s
  obtain ⟨Y, hY⟩ : ∃ Y : ByteArray, Y = ⟨s.toArray⟩ := ⟨_, rfl⟩
  rw [← hY] at HWords ⊢
  have HB := Lib.hid (ActB.start w (.slice a n c) (.string X))
  obtain ⟨W0, hW0⟩ : ∃ W0, W0 = ActW w (.slice a n c) (.string X) := ⟨_, rfl⟩
  rw [← hW0] at HB
  unfold ActW at hW0
  obtain ⟨nw, hnw⟩ : ∃ nw, nw = ws.length := ⟨_, rfl⟩
  have HNw := Lib.hid hnw
  rw [← hnw] at HWords hpos
  obtain rfl : 3 = nw := by omega
  clear h hT hn hX hdv hY hs hws hWords hnw inv
  have HAct := Lib.hid (wordsA_push st ws h0 hl)
  have HH0 := Lib.hid h0
  clear h0
  go_enter Tryz.func38, Tryz.ntmps38
  go_wp2_with fail
  rw [← hW0]
  clear hW0
  refine (HWords.out _).mono ?_
  rintro e w1 ⟨g, cw, rfl, hcs, hb1⟩
  have HB1 := Lib.hid (HB.out.to hb1)
  have HCs := Lib.hid hcs
  have hc0 : w1.cell? ⟨g, 0, none⟩ = some (.string ⟨#[112, 117, 115, 104]⟩) := by
    have h := hcs 0 hpos
    rw [HH0.out] at h
    exact h
  have c0 := HB1.out.c0
  have c1 := HB1.out.c1
  have d0 := HB1.out.d0
  have d1 := HB1.out.d1
  have f0 := HB1.out.f 0
  have f1 := HB1.out.f 1
  clear hb1 hcs
  have hc1 : w1.cell? ⟨g, 1, none⟩ = some (.string ⟨(ws.getD 1 []).toArray⟩) := HCs.out 1 (by omega)
  have hc2 : w1.cell? ⟨g, 2, none⟩ = some (.string ⟨(ws.getD 2 []).toArray⟩) := HCs.out 2 (by omega)
  have HS1 := Lib.hid (fun W => rshort_any (ws.getD 1 []) (by have := HWl.out 1; omega) W)
  have HS2 := Lib.hid (fun W => rshort_any (ws.getD 2 []) (by have := HWl.out 2; omega) W)
  obtain ⟨u1, hu1⟩ : ∃ u, u = ws.getD 1 [] := ⟨_, rfl⟩
  obtain ⟨u2, hu2⟩ : ∃ u, u = ws.getD 2 [] := ⟨_, rfl⟩
  rw [← hu1] at HS1 HAct hc1
  rw [← hu2] at HS2 HAct hc2
  obtain ⟨Y1, hY1⟩ : ∃ Y1 : ByteArray, Y1 = ⟨u1.toArray⟩ := ⟨_, rfl⟩
  obtain ⟨Y2, hY2⟩ : ∃ Y2 : ByteArray, Y2 = ⟨u2.toArray⟩ := ⟨_, rfl⟩
  rw [← hY1] at HS1 hc1
  rw [← hY2] at HS2 hc2
  clear hu1 hu2 hY1 hY2
  go_wp2_with fail
  refine (HS1.out _).mono ?_
  rintro e w2 ⟨n1, k1, q1, rfl, ht1, hf1, hw1⟩
  have hb1 : Below w1.heap.size w1 w2 := by rw [hw1]; exact below_drewN (Below.refl _ _) q1
  have HB2 := Lib.hid (HB1.out.to hb1)
  have hc2b : w2.cell? ⟨g, 2, none⟩ = some (.string Y2) := (hb1.cell (p := ⟨g, 2, none⟩) (World.block_lt_of_cell? w1 _ hc2)).trans hc2
  clear hw1 hb1 c0 c1 d0 d1 f0 f1
  have c0 := HB2.out.c0
  have c1 := HB2.out.c1
  have d0 := HB2.out.d0
  have d1 := HB2.out.d1
  have f0 := HB2.out.f 0
  have f1 := HB2.out.f 1
  clear hc0 hc1 hc2
  go_wp2_with fail
  refine (HS2.out _).mono ?_
  rintro e w3 ⟨n2, k2, q2, rfl, ht2, hf2, hw2⟩
  have hb2 : Below w2.heap.size w2 w3 := by rw [hw2]; exact below_drewN (Below.refl _ _) q2
  have HB3 := Lib.hid (HB2.out.to hb2)
  clear hw2 hb2 c0 c1 d0 d1 f0 f1
  have c0 := HB3.out.c0
  have c1 := HB3.out.c1
  have d0 := HB3.out.d0
  have d1 := HB3.out.d1
  have f0 := HB3.out.f 0
  have f1 := HB3.out.f 1
  clear hc2b
  cases k1 with
  | false =>
    have hact : Hid (wordsA st ws = (st, badB)) := Lib.hid (by rw [HAct.out, hf1 rfl])
    clear ht1 hf1 ht2 hf2
    go_wp2
    refine bodyPost_ret (results_cellrow_tmp rfl _ _ (w.heap.size + 1) _ _ _ _ rfl (heap_setCell_same _ _ _ _ _ _ (heap_setCell_same _ _ _ _ _ _ HB3.out.b1)) Tryz.underlying78 rfl (by kernel_rfl)) rfl ?_
    rw [hact.out]
    exact dact_fin (r := (st, badB)) (by omega) HB3.out.low (HD.out.below HB3.out.low) HB3.out.b1 _ (two_sets _ _ _ _) _ (by rw [HDv.out]; rfl)
  | true =>
    cases k2 with
    | false =>
      have hact : Hid (wordsA st ws = (st, badB)) := Lib.hid (by rw [HAct.out, ht1 rfl, hf2 rfl])
      clear ht1 hf1 ht2 hf2
      go_wp2
      refine bodyPost_ret (results_cellrow_tmp rfl _ _ (w.heap.size + 1) _ _ _ _ rfl (heap_setCell_same _ _ _ _ _ _ (heap_setCell_same _ _ _ _ _ _ HB3.out.b1)) Tryz.underlying78 rfl (by kernel_rfl)) rfl ?_
      rw [hact.out]
      exact dact_fin (r := (st, badB)) (by omega) HB3.out.low (HD.out.below HB3.out.low) HB3.out.b1 _ (two_sets _ _ _ _) _ (by rw [HDv.out]; rfl)
    | true =>
      have hact : Hid (wordsA st ws = pushA st n1 n2) := Lib.hid (by rw [HAct.out, ht1 rfl, ht2 rfl])
      clear ht1 hf1 ht2 hf2
      have hpush := (HD.out.below HB3.out.low).push (by have := HT.out; omega) n1 n2
      rw [HDv.out] at hpush
      have HPush := Lib.hid hpush
      clear hpush
      go_wp2_with fail
      refine HPush.out.mono ?_
      rintro e w4 ⟨⟨a4, c4, l4, rfl, hD4⟩, hb4⟩
      have HB4 := Lib.hid (HB3.out.to hb4)
      obtain ⟨n4, X4, hdv4⟩ := doc_hv (pushS st ⟨n1, n2, 0⟩) a4 c4 l4
      obtain ⟨code, hcode⟩ : ∃ x, x = pcode st ⟨n1, n2, 0⟩ := ⟨_, rfl⟩
      rw [hdv4, ← hcode]
      have HD4 := Lib.hid hD4
      have HDv4 := Lib.hid hdv4
      have HCode := Lib.hid hcode
      clear hD4 hb4 hdv4 hcode c0 c1 d0 d1 f0 f1
      go_upto_region 15 with fail
      obtain ⟨W5, hW5⟩ : ∃ W5, W5 = w4.alloc (.cells #[.slice a4 n4 c4, .string X4] 78) := ⟨_, rfl⟩
      rw [← hW5]
      have b5 : Below w4.heap.size w4 W5 := by rw [hW5]; exact (Below.refl _ w4).alloc (Nat.le_refl _) _
      have y5 : W5.heap[w4.heap.size]? = some (.cells #[.slice a4 n4 c4, .string X4] 78 (0, 0)) := by rw [hW5]; exact heap_alloc_new _ _
      have HB5 := Lib.hid (HB4.out.to b5)
      have HD5 := Lib.hid (HD4.out.below b5)
      have p0 : W5.cell? ⟨w4.heap.size, 0, none⟩ = some (.slice a4 n4 c4) := by simp [World.cell?, y5]
      have p1 : W5.cell? ⟨w4.heap.size, 1, none⟩ = some (.string X4) := by simp [World.cell?, y5]
      clear hW5 b5 y5
      have c0 := HB5.out.c0
      have c1 := HB5.out.c1
      have d0 := HB5.out.d0
      have d1 := HB5.out.d1
      have f0 := HB5.out.f 0
      have f1 := HB5.out.f 1
      by_cases hc : code = 0
      · have hpA : Hid (wordsA st ws = (pushS st ⟨n1, n2, 0⟩, okB)) := Lib.hid (by rw [hact.out]; unfold pushA; rw [if_pos (by rw [← HCode.out]; exact hc)])
        subst hc
        go_wp2
        refine bodyPost_ret (results_cellrow_tmp rfl _ _ (w.heap.size + 1) _ _ _ _ rfl (heap_setCell_same _ _ _ _ _ _ (heap_setCell_same _ _ _ _ _ _ HB5.out.b1)) Tryz.underlying78 rfl (by kernel_rfl)) rfl ?_
        rw [hpA.out]
        exact dact_fin (r := (pushS st ⟨n1, n2, 0⟩, okB)) (by omega) HB5.out.low HD5.out HB5.out.b1 _ (two_sets _ _ _ _) _ (by rw [HDv4.out]; rfl)
      · have hcb : (code != 0) = true := by rw [bne_iff_ne]; exact hc
        have hpA : Hid (wordsA st ws = (st, called code)) := Lib.hid (by rw [hact.out]; unfold pushA; rw [if_neg (by rw [← HCode.out]; exact hc), HCode.out])
        clear hc
        obtain ⟨Z, hZ⟩ : ∃ Z : ByteArray, Z = ⟨(called code).toArray⟩ := ⟨_, rfl⟩
        have HCl : Hid (∀ W, Calls Tryz.prog 59 #[.int .i64 code] W fun e w' => e = .returned (.string Z) ∧ w' = W) := Lib.hid fun W => by
          rw [hZ]; exact rcalled_any code W
        have HZ := Lib.hid hZ
        clear hZ
        go_wp2_with fail
        go_region_with (go_at_call 59; refine (HCl.out _).mono ?_; rintro e w2 ⟨rfl, rfl⟩)
        all_goals
          go_wp2
          refine bodyPost_ret (results_cellrow_tmp rfl _ _ (w.heap.size + 1) _ _ _ _ rfl (heap_setCell_same _ _ _ _ _ _ (heap_setCell_same _ _ _ _ _ _ HB5.out.b1)) Tryz.underlying78 rfl (by kernel_rfl)) rfl ?_
          rw [hpA.out]
          refine dact_fin (r := (st, called code)) (by omega) HB5.out.low (HD.out.below HB5.out.low) HB5.out.b1 _ ?_ _ (by rw [HDv.out, HZ.out]; rfl)
          exact (two_sets W5 (w.heap.size + 1) (.slice a n c) (.string X)).drewN 1
end Go.Proofs.YtfejlkgddnamoaaGreatDoor
