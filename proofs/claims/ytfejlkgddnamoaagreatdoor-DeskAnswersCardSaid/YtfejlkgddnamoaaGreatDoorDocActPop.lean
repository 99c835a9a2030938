/- WALK: the document's act: the line "pop". -/
import Derived.Test.YtfejlkgddnamoaaGreatDoorDocActB
set_option linter.unusedVariables false
set_option linter.unusedSimpArgs false
namespace Go.Proofs.YtfejlkgddnamoaaGreatDoor
open Go Go.RowKit SimPlain HeapPlain BookPlain NumPlain SpPlain LinesPlain

set_option maxRecDepth 100000 in
set_option maxHeartbeats 8000000 in
theorem ract_pop (st : St) (a : Option Addr) (c : Nat) (l : List Ev) (w : World) (h : DocS w st a c l) (j : Nat) (inv : Inv st j) (hj : j ≤ 5000) (s : List UInt8) (hs : s.length ≤ 1000000) (ws : List (List UInt8)) (hws : ws = splitSp s) (h0 : ws.getD 0 [] = popB) (hl : ws.length = 1) :
    Calls Tryz.prog 38 #[docV st a c l, .string ⟨s.toArray⟩] w fun e w' => DActRes (popA st) w e w' := by
  have hT : st.T.length ≤ 1000000 := by have := inv.bounds.2.2.2; omega
  have HD := Lib.hid h
  have HT := Lib.hid hT
  have HInv := Lib.hid inv
  obtain ⟨n, hn⟩ : ∃ n, n = l.length := ⟨_, rfl⟩
  obtain ⟨X, hX⟩ : ∃ X : ByteArray, X = ⟨st.T.toArray⟩ := ⟨_, rfl⟩
  have hdv : docV st a c l = .agg #[.slice a n c, .string X] := by rw [hn, hX]; rfl
  have HDv := Lib.hid hdv
  have HN := Lib.hid hn
  have HX := Lib.hid hX
  rw [hdv]
  have hWords := fun W => rwords_any s (by omega) W
  unfold WRes at hWords
  rw [← hws] at hWords
  have HWords := Lib.hid hWords
  have HWl : Hid (∀ k, (ws.getD k []).length ≤ 1000000) := Lib.hid fun k => by
    rcases Nat.lt_or_ge k ws.length with c | c
    · have hm2 : ws.getD k [] ∈ splitSp s := by
        rw [← hws, List.getD_eq_getElem?_getD, List.getElem?_eq_getElem c]; exact List.getElem_mem c
      have := splitSp_le _ _ hm2
      omega
    · rw [List.getD_eq_getElem?_getD, List.getElem?_eq_none c]; simp
  have hpos : 0 < ws.length := by rw [hws]; exact splitSp_pos s
  obtain ⟨Y, hY⟩ : ∃ Y : ByteArray, Y = ⟨s.toArray⟩ := ⟨_, rfl⟩
  rw [← hY] at HWords ⊢
  have HB := Lib.hid (ActB.start w (.slice a n c) (.string X))
  obtain ⟨W0, hW0⟩ : ∃ W0, W0 = ActW w (.slice a n c) (.string X) := ⟨_, rfl⟩
  rw [← hW0] at HB
  unfold ActW at hW0
  obtain ⟨nw, hnw⟩ : ∃ nw, nw = ws.length := ⟨_, rfl⟩
  have HNw := Lib.hid hnw
  rw [← hnw] at HWords hpos
  obtain rfl : 1 = nw := by omega
  clear h hT hn hX hdv hY hs hws hWords hnw inv
  have HH0 := Lib.hid h0
  clear h0
  go_enter Tryz.func38, Tryz.ntmps38
  go_wp2_with fail
  rw [← hW0]
  clear hW0
  refine (HWords.out _).mono ?_
  rintro e w1 ⟨g, cw, rfl, hcs, hb1⟩
  have HB1 := Lib.hid (HB.out.to hb1)
  have HCs := Lib.hid hcs
  have hc0 : w1.cell? ⟨g, 0, none⟩ = some (.string ⟨#[112, 111, 112]⟩) := by
    have h := hcs 0 hpos
    rw [HH0.out] at h
    exact h
  have c0 := HB1.out.c0
  have c1 := HB1.out.c1
  have d0 := HB1.out.d0
  have d1 := HB1.out.d1
  have f0 := HB1.out.f 0
  have f1 := HB1.out.f 1
  clear hb1 hcs
  have hpop := (HD.out.below HB1.out.low).pop (by have := HT.out; omega)
  rw [HDv.out] at hpop
  have HPop := Lib.hid hpop
  clear hpop
  go_wp2_with fail
  refine HPop.out.mono ?_
  rintro e w4 ⟨⟨kk, dd, a4, c4, l4, rfl, hD4, hkd⟩, hb4⟩
  have HB4 := Lib.hid (HB1.out.to hb4)
  obtain ⟨n4, X4, hdv4⟩ := doc_hv (popS st).1 a4 c4 l4
  obtain ⟨code, hcode⟩ : ∃ x, x = (popS st).2 := ⟨_, rfl⟩
  rw [hdv4, ← hcode]
  have HD4 := Lib.hid hD4
  have HDv4 := Lib.hid hdv4
  have HCode := Lib.hid hcode
  have HKd := Lib.hid hkd
  clear hD4 hb4 hdv4 hcode hkd hc0 c0 c1 d0 d1 f0 f1
  go_upto_region 6 with fail
  obtain ⟨W5, hW5⟩ : ∃ W5, W5 = (w4.alloc (.cells #[.slice a4 n4 c4, .string X4] 78)).alloc (.cells #[.int .i64 kk, .int .i64 dd] 30) := ⟨_, rfl⟩
  rw [← hW5]
  have b5 : Below w4.heap.size w4 W5 := by rw [hW5]; exact ((Below.refl _ w4).alloc (Nat.le_refl _) _).alloc (by simp) _
  have y5 : W5.heap[w4.heap.size]? = some (.cells #[.slice a4 n4 c4, .string X4] 78 (0, 0)) := by
    rw [hW5, Below.heap_alloc _ _ _ (by simp)]; exact heap_alloc_new _ _
  have z5 : W5.heap[w4.heap.size + 1]? = some (.cells #[.int .i64 kk, .int .i64 dd] 30 (0, 0)) := by
    have h := heap_alloc_new (w4.alloc (.cells #[.slice a4 n4 c4, .string X4] 78)) (.cells #[.int .i64 kk, .int .i64 dd] 30)
    rw [World.size_alloc] at h
    rw [hW5]; exact h
  have HB5 := Lib.hid (HB4.out.to b5)
  have HD5 := Lib.hid (HD4.out.below b5)
  have p0 : W5.cell? ⟨w4.heap.size, 0, none⟩ = some (.slice a4 n4 c4) := by simp [World.cell?, y5]
  have p1 : W5.cell? ⟨w4.heap.size, 1, none⟩ = some (.string X4) := by simp [World.cell?, y5]
  have i0 : W5.cell? ⟨w4.heap.size + 1, 0, none⟩ = some (.int .i64 kk) := by simp [World.cell?, z5]
  have i1 : W5.cell? ⟨w4.heap.size + 1, 1, none⟩ = some (.int .i64 dd) := by simp [World.cell?, z5]
  clear hW5 b5 y5 z5
  have c0 := HB5.out.c0
  have c1 := HB5.out.c1
  have d0 := HB5.out.d0
  have d1 := HB5.out.d1
  have f0 := HB5.out.f 0
  have f1 := HB5.out.f 1
  rcases hq : st.q with _ | ⟨x, q⟩
  · have hc5 : code = 5 := by rw [HCode.out]; unfold popS; rw [hq]
    have hpA : Hid (popA st = (st, called 5)) := Lib.hid (by unfold popA; rw [hq])
    subst hc5
    clear hq
    obtain ⟨Z, hZ⟩ : ∃ Z : ByteArray, Z = ⟨(called 5).toArray⟩ := ⟨_, rfl⟩
    have HCl : Hid (∀ W, Calls Tryz.prog 59 #[.int .i64 5] W fun e w' => e = .returned (.string Z) ∧ w' = W) := Lib.hid fun W => by
      rw [hZ]; exact rcalled_any 5 W
    have HZ := Lib.hid hZ
    clear hZ
    go_wp2_with fail
    go_region_with (go_at_call 59; refine (HCl.out _).mono ?_; rintro e w2 ⟨rfl, rfl⟩)
    all_goals
      go_wp2
      refine bodyPost_ret (results_cellrow_tmp rfl _ _ (w.heap.size + 1) _ _ _ _ rfl (heap_setCell_same _ _ _ _ _ _ (heap_setCell_same _ _ _ _ _ _ HB5.out.b1)) Tryz.underlying78 rfl (by kernel_rfl)) rfl ?_
      rw [hpA.out]
      refine dact_fin (r := (st, called 5)) (by omega) HB5.out.low (HD.out.below HB5.out.low) HB5.out.b1 _ ?_ _ (by rw [HDv.out, HZ.out]; rfl)
      exact (two_sets W5 (w.heap.size + 1) (.slice a n c) (.string X)).drewN 1
  · have hc5 : code = 0 := by rw [HCode.out]; unfold popS; rw [hq]
    have hpA : Hid (popA st = ((popS st).1, Lib.itoa kk ++ 32 :: Lib.itoa dd)) := Lib.hid (by
      obtain ⟨h1, h2, -⟩ := HKd.out x q hq
      unfold popA popS; rw [hq, h1, h2])
    obtain ⟨t0, t1, u0, u1⟩ : -1000000 ≤ kk ∧ kk ≤ 1000000 ∧ 0 ≤ dd ∧ dd ≤ 1000000 := by
      obtain ⟨h1, h2, -⟩ := HKd.out x q hq
      obtain ⟨g0, g1, g2, g3⟩ := okE_of (HInv.out.fits x (by rw [hq]; simp))
      rw [h1, h2]; exact ⟨g0, g1, g2, g3⟩
    obtain ⟨K, hK⟩ : ∃ K : ByteArray, K = ⟨(Lib.itoa kk).toArray⟩ := ⟨_, rfl⟩
    obtain ⟨I, hI⟩ : ∃ I : ByteArray, I = ⟨(Lib.itoa dd).toArray⟩ := ⟨_, rfl⟩
    have hKl := itoa_len kk (by omega) (by omega)
    have hIl := itoa_len dd (by omega) (by omega)
    have hKs : K.size = (Lib.itoa kk).length := by rw [hK]; exact mk_size _
    have hIs : I.size = (Lib.itoa dd).length := by rw [hI]; exact mk_size _
    have hKd2 : K.data.toList = Lib.itoa kk := by rw [hK]
    have hId2 : I.data.toList = Lib.itoa dd := by rw [hI]
    obtain ⟨X1, e1, z1⟩ := mk_list (K.data.toList ++ [32])
    obtain ⟨X2, e2, z2⟩ := mk_list (X1.data.toList ++ I.data.toList)
    have s1 : X1.size = K.size + 1 := by rw [z1, List.length_append, ← Lib.size_eq]; rfl
    have r1 := cat_run (P := Tryz.prog) K ⟨#[32]⟩ X1 (by rw [e1]) (by show _ + 1 ≤ _; omega)
    have r2 := cat_run (P := Tryz.prog) X1 I X2 (by rw [e2]) (by omega)
    have HX2 : Hid (X2 = ⟨(Lib.itoa kk ++ 32 :: Lib.itoa dd).toArray⟩) := Lib.hid (by
      apply ByteArray.ext; apply Array.toList_inj.1
      rw [e2, e1, hKd2, hId2]; simp)
    have HK : Hid (∀ W, Calls Tryz.prog 57 #[.int .i64 kk] W fun e w' => e = .returned (.string K) ∧ w' = W) := Lib.hid fun W => by rw [hK]; exact rdigits_all kk (by omega) (by omega) W
    have HI : Hid (∀ W, Calls Tryz.prog 57 #[.int .i64 dd] W fun e w' => e = .returned (.string I) ∧ w' = W) := Lib.hid fun W => by rw [hI]; exact rdigits_all dd (by omega) (by omega) W
    subst hc5
    clear hq hK hI hKl hIl hKs hIs hKd2 hId2 e1 e2 z1 z2 s1 t0 t1 u0 u1
    go_wp2_with fail
    go_region_with (first
      | (go_at_call_of 57 (Value.int IntKind.i64 kk); refine (HK.out _).mono ?_; rintro e w6 ⟨rfl, rfl⟩)
      | (go_at_call_of 57 (Value.int IntKind.i64 dd); refine (HI.out _).mono ?_; rintro e w7 ⟨rfl, rfl⟩))
    all_goals
      go_wp2
      refine bodyPost_ret (results_cellrow_tmp rfl _ _ (w.heap.size + 1) _ _ _ _ rfl (heap_setCell_same _ _ _ _ _ _ (heap_setCell_same _ _ _ _ _ _ HB5.out.b1)) Tryz.underlying78 rfl (by kernel_rfl)) rfl ?_
      rw [hpA.out]
      refine dact_fin (r := ((popS st).1, Lib.itoa kk ++ 32 :: Lib.itoa dd)) (by omega) HB5.out.low HD5.out HB5.out.b1 _ ?_ _ (by rw [HDv4.out, ← HX2.out]; rfl)
      exact (two_sets W5 (w.heap.size + 1) (.slice a4 n4 c4) (.string X4)).drewN 1
end Go.Proofs.YtfejlkgddnamoaaGreatDoor
