/- WALK: the document's act: the line "other". -/
import Derived.Test.YtfejlkgddnamoaaGreatDoorDocActB
set_option linter.unusedVariables false
set_option linter.unusedSimpArgs false
namespace Go.Proofs.YtfejlkgddnamoaaGreatDoor
open Go Go.RowKit SimPlain HeapPlain BookPlain NumPlain SpPlain LinesPlain

set_option maxRecDepth 100000 in
set_option maxHeartbeats 8000000 in
theorem ract_other (st : St) (a : Option Addr) (c : Nat) (l : List Ev) (w : World) (h : DocS w st a c l) (j : Nat) (inv : Inv st j) (hj : j ≤ 5000) (s : List UInt8) (hs : s.length ≤ 1000000) (ws : List (List UInt8)) (hws : ws = splitSp s) (t : List UInt8) (h0 : ws.getD 0 [] = t) (h1 : ws.length = 1 → t ≠ manyW ∧ t ≠ popB) (h2 : ws.length = 2 → t ≠ crashW) (h3 : ws.length = 3 → t ≠ pushW) (hno : wordsA st ws = (st, badB)) :
    Calls Tryz.prog 38 #[docV st a c l, .string ⟨s.toArray⟩] w fun e w' => DActRes (wordsA st ws) w e w' := by
  have hT : st.T.length ≤ 1000000 := by have := inv.bounds.2.2.2; omega
  have HD := Lib.hid h
  have HT := Lib.hid hT
  have HInv := Lib.hid inv
  obtain ⟨n, hn⟩ : ∃ n, n = l.length := ⟨_, rfl⟩
  obtain ⟨X, hX⟩ : ∃ X : ByteArray, X = ⟨st.T.toArray⟩ := ⟨_, rfl⟩
  have hdv : docV st a c l = .agg #[.slice a n c, .string X] := by rw [hn, hX]; rfl
  have HDv := Lib.hid hdv
  have HN := Lib.hid hn
  have HX := Lib.hid hX
  rw [hdv]
  have hWords := fun W => rwords_any s (by omega) W
  unfold WRes at hWords
  rw [← hws] at hWords
  have HWords := Lib.hid hWords
  have HWl : Hid (∀ k, (ws.getD k []).length ≤ 1000000) := Lib.hid fun k => by
    rcases Nat.lt_or_ge k ws.length with c | c
    · have hm2 : ws.getD k [] ∈ splitSp s := by
        rw [← hws, List.getD_eq_getElem?_getD, List.getElem?_eq_getElem c]; exact List.getElem_mem c
      have := splitSp_le _ _ hm2
      omega
    · rw [List.getD_eq_getElem?_getD, List.getElem?_eq_none c]; simp
  have hpos : 0 < ws.length := by rw [hws]; exact splitSp_pos s
  obtain ⟨Y, hY⟩ : ∃ Y : ByteArray, Y = ⟨s.toArray⟩ := ⟨_, rfl⟩
  rw [← hY] at HWords ⊢
  have HB := Lib.hid (ActB.start w (.slice a n c) (.string X))
  obtain ⟨W0, hW0⟩ : ∃ W0, W0 = ActW w (.slice a n c) (.string X) := ⟨_, rfl⟩
  rw [← hW0] at HB
  unfold ActW at hW0
  obtain ⟨nw, hnw⟩ : ∃ nw, nw = ws.length := ⟨_, rfl⟩
  have HNw := Lib.hid hnw
  rw [← hnw] at HWords hpos

  clear h hT hn hX hdv hY hs hws hWords hnw inv
  have hact := Lib.hid hno
  have HH1 := Lib.hid h1
  have HH2 := Lib.hid h2
  have HH3 := Lib.hid h3
  clear hno h1 h2 h3
  have HH0 := Lib.hid h0
  clear h0
  go_enter Tryz.func38, Tryz.ntmps38
  go_wp2_with fail
  rw [← hW0]
  clear hW0
  refine (HWords.out _).mono ?_
  rintro e w1 ⟨g, cw, rfl, hcs, hb1⟩
  have HB1 := Lib.hid (HB.out.to hb1)
  have HCs := Lib.hid hcs
  have hc0 : w1.cell? ⟨g, 0, none⟩ = some (.string ⟨t.toArray⟩) := by
    have h := hcs 0 hpos
    rw [HH0.out] at h
    exact h
  have c0 := HB1.out.c0
  have c1 := HB1.out.c1
  have d0 := HB1.out.d0
  have d1 := HB1.out.d1
  have f0 := HB1.out.f 0
  have f1 := HB1.out.f 1
  clear hb1 hcs
  have ne : ∀ k : List UInt8, t ≠ k → ((⟨t.toArray⟩ : ByteArray).toList == k) = false := fun k h => by
    rw [beq_eq_false_iff_ne, ByteArray.toList_eq]; exact h
  obtain ⟨Y0, hY0⟩ : ∃ Y0 : ByteArray, Y0 = ⟨t.toArray⟩ := ⟨_, rfl⟩
  rw [← hY0] at hc0 ne
  clear hY0
  have hposI : (0 : Int) < (nw : Int) := by omega
  rcases (by omega : nw = 1 ∨ nw = 2 ∨ nw = 3 ∨ 3 < nw) with e | e | e | e
  · obtain ⟨g1, g2⟩ := HH1.out (by rw [← HNw.out]; exact e)
    have n1 := ne _ g1
    have n2 := ne _ g2
    unfold manyW at n1
    unfold popB at n2
    subst e
    clear ne g1 g2
    go_wp2
    refine bodyPost_ret (results_cellrow_tmp rfl _ _ (w.heap.size + 1) _ _ _ _ rfl (heap_setCell_same _ _ _ _ _ _ (heap_setCell_same _ _ _ _ _ _ HB1.out.b1)) Tryz.underlying78 rfl (by kernel_rfl)) rfl ?_
    rw [hact.out]
    exact dact_fin (r := (st, badB)) (by omega) HB1.out.low (HD.out.below HB1.out.low) HB1.out.b1 _ (two_sets _ _ _ _) _ (by rw [HDv.out]; rfl)
  · have n1 := ne _ (HH2.out (by rw [← HNw.out]; exact e))
    unfold crashW at n1
    subst e
    clear ne
    go_wp2
    refine bodyPost_ret (results_cellrow_tmp rfl _ _ (w.heap.size + 1) _ _ _ _ rfl (heap_setCell_same _ _ _ _ _ _ (heap_setCell_same _ _ _ _ _ _ HB1.out.b1)) Tryz.underlying78 rfl (by kernel_rfl)) rfl ?_
    rw [hact.out]
    exact dact_fin (r := (st, badB)) (by omega) HB1.out.low (HD.out.below HB1.out.low) HB1.out.b1 _ (two_sets _ _ _ _) _ (by rw [HDv.out]; rfl)
  · have n1 := ne _ (HH3.out (by rw [← HNw.out]; exact e))
    unfold pushW at n1
    subst e
    clear ne
    go_wp2
    refine bodyPost_ret (results_cellrow_tmp rfl _ _ (w.heap.size + 1) _ _ _ _ rfl (heap_setCell_same _ _ _ _ _ _ (heap_setCell_same _ _ _ _ _ _ HB1.out.b1)) Tryz.underlying78 rfl (by kernel_rfl)) rfl ?_
    rw [hact.out]
    exact dact_fin (r := (st, badB)) (by omega) HB1.out.low (HD.out.below HB1.out.low) HB1.out.b1 _ (two_sets _ _ _ _) _ (by rw [HDv.out]; rfl)
  · have m1 : ((nw : Int) == 1) = false := by rw [beq_eq_false_iff_ne]; omega
    have m2 : ((nw : Int) == 2) = false := by rw [beq_eq_false_iff_ne]; omega
    have m3 : ((nw : Int) == 3) = false := by rw [beq_eq_false_iff_ne]; omega
    clear ne
    go_wp2
    refine bodyPost_ret (results_cellrow_tmp rfl _ _ (w.heap.size + 1) _ _ _ _ rfl (heap_setCell_same _ _ _ _ _ _ (heap_setCell_same _ _ _ _ _ _ HB1.out.b1)) Tryz.underlying78 rfl (by kernel_rfl)) rfl ?_
    rw [hact.out]
    exact dact_fin (r := (st, badB)) (by omega) HB1.out.low (HD.out.below HB1.out.low) HB1.out.b1 _ (two_sets _ _ _ _) _ (by rw [HDv.out]; rfl)
end Go.Proofs.YtfejlkgddnamoaaGreatDoor
