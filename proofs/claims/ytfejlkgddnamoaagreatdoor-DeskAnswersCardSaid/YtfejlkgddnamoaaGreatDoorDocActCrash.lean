/- WALK: the document's act: the line "crash". -/
import Derived.Test.YtfejlkgddnamoaaGreatDoorDocActB
set_option linter.unusedVariables false
set_option linter.unusedSimpArgs false
namespace Go.Proofs.YtfejlkgddnamoaaGreatDoor
open Go Go.RowKit SimPlain HeapPlain BookPlain NumPlain SpPlain LinesPlain

theorem act_ret {st : St} {a : Option Addr} {c n : Nat} {l : List Ev} {X Y : ByteArray} {al : List UInt8} (h : docV st a c l = .agg #[.slice a n c, .string X]) (hy : Y = ⟨al.toArray⟩) :
    Ending.returned (.tuple #[.agg #[.slice a n c, .string X], .string Y]) = .returned (.tuple #[docV (st, al).1 a c l, .string ⟨(st, al).2.toArray⟩]) := by
  rw [hy]; show _ = Ending.returned (.tuple #[docV st a c l, .string ⟨al.toArray⟩]); rw [h]
set_option maxRecDepth 100000 in
set_option maxHeartbeats 8000000 in
theorem ract_crash (st : St) (a : Option Addr) (c : Nat) (l : List Ev) (w : World) (h : DocS w st a c l) (j : Nat) (inv : Inv st j) (hj : j ≤ 5000) (s : List UInt8) (hs : s.length ≤ 1000000) (ws : List (List UInt8)) (hws : ws = splitSp s) (h0 : ws.getD 0 [] = crashW) (hl : ws.length = 2) :
    Calls Tryz.prog 38 #[docV st a c l, .string ⟨s.toArray⟩] w fun e w' => DActRes (wordsA st ws) w e w' := by
  have hT : st.T.length ≤ 1000000 := by have := inv.bounds.2.2.2; omega
  have HD := Lib.hid h
  have HT := Lib.hid hT
  have HInv := Lib.hid inv
  obtain ⟨n, hn⟩ : ∃ n, n = l.length := ⟨_, rfl⟩
  obtain ⟨X, hX⟩ : ∃ X : ByteArray, X = ⟨st.T.toArray⟩ := ⟨_, rfl⟩
  have hdv : docV st a c l = .agg #[.slice a n c, .string X] := by rw [hn, hX]; rfl
  have HDv := Lib.hid hdv
  have HN := Lib.hid hn
  have HX := Lib.hid hX
  rw [hdv]
  have hWords := fun W => rwords_any s (by omega) W
  unfold WRes at hWords
  rw [← hws] at hWords
  have HWords := Lib.hid hWords
  have HWl : Hid (∀ k, (ws.getD k []).length ≤ 1000000) := Lib.hid fun k => by
    rcases Nat.lt_or_ge k ws.length with c | c
    · have hm2 : ws.getD k [] ∈ splitSp s := by
        rw [← hws, List.getD_eq_getElem?_getD, List.getElem?_eq_getElem c]; exact List.getElem_mem c
      have := splitSp_le _ _ hm2
      omega
    · rw [List.getD_eq_getElem?_getD, List.getElem?_eq_none c]; simp
  have hpos : 0 < ws.length := by rw [hws]; exact splitSp_pos s
  obtain ⟨Y, hY⟩ : ∃ Y : ByteArray, Y = ⟨s.toArray⟩ := ⟨_, rfl⟩
  rw [← hY] at HWords ⊢
  have HB := Lib.hid (ActB.start w (.slice a n c) (.string X))
  obtain ⟨W0, hW0⟩ : ∃ W0, W0 = ActW w (.slice a n c) (.string X) := ⟨_, rfl⟩
  rw [← hW0] at HB
  unfold ActW at hW0
  obtain ⟨nw, hnw⟩ : ∃ nw, nw = ws.length := ⟨_, rfl⟩
  have HNw := Lib.hid hnw
  rw [← hnw] at HWords hpos
  obtain rfl : 2 = nw := by omega
  clear h hT hn hX hdv hY hs hws hWords hnw inv
  have HAct := Lib.hid (wordsA_crash st ws h0 hl)
  have HH0 := Lib.hid h0
  clear h0
  go_enter Tryz.func38, Tryz.ntmps38
  go_wp2_with fail
  rw [← hW0]
  clear hW0
  refine (HWords.out _).mono ?_
  rintro e w1 ⟨g, cw, rfl, hcs, hb1⟩
  have HB1 := Lib.hid (HB.out.to hb1)
  have HCs := Lib.hid hcs
  have hc0 : w1.cell? ⟨g, 0, none⟩ = some (.string ⟨#[99, 114, 97, 115, 104]⟩) := by
    have h := hcs 0 hpos
    rw [HH0.out] at h
    exact h
  have c0 := HB1.out.c0
  have c1 := HB1.out.c1
  have d0 := HB1.out.d0
  have d1 := HB1.out.d1
  have f0 := HB1.out.f 0
  have f1 := HB1.out.f 1
  clear hb1 hcs
  have hc1 : w1.cell? ⟨g, 1, none⟩ = some (.string ⟨(ws.getD 1 []).toArray⟩) := HCs.out 1 (by omega)
  have HS1 := Lib.hid (fun W => rshort_any (ws.getD 1 []) (by have := HWl.out 1; omega) W)
  obtain ⟨u1, hu1⟩ : ∃ u, u = ws.getD 1 [] := ⟨_, rfl⟩
  rw [← hu1] at HS1 HAct hc1
  obtain ⟨Y1, hY1⟩ : ∃ Y1 : ByteArray, Y1 = ⟨u1.toArray⟩ := ⟨_, rfl⟩
  rw [← hY1] at HS1 hc1
  clear hu1 hY1
  go_wp2_with fail
  refine (HS1.out _).mono ?_
  rintro e w2 ⟨n1, k1, q1, rfl, ht1, hf1, hw1⟩
  have hb1 : Below w1.heap.size w1 w2 := by rw [hw1]; exact below_drewN (Below.refl _ _) q1
  have HB2 := Lib.hid (HB1.out.to hb1)
  clear hw1 hb1 c0 c1 d0 d1 f0 f1
  have c0 := HB2.out.c0
  have c1 := HB2.out.c1
  have d0 := HB2.out.d0
  have d1 := HB2.out.d1
  have f0 := HB2.out.f 0
  have f1 := HB2.out.f 1
  clear hc0 hc1
  cases k1 with
  | false =>
    have hact : Hid (wordsA st ws = (st, badB)) := Lib.hid (by rw [HAct.out, hf1 rfl])
    clear ht1 hf1
    go_wp2
    refine bodyPost_ret (results_cellrow_tmp rfl _ _ (w.heap.size + 1) _ _ _ _ rfl (heap_setCell_same _ _ _ _ _ _ (heap_setCell_same _ _ _ _ _ _ HB2.out.b1)) Tryz.underlying78 rfl (by kernel_rfl)) rfl ?_
    rw [hact.out]
    exact dact_fin (r := (st, badB)) (by omega) HB2.out.low (HD.out.below HB2.out.low) HB2.out.b1 _ (two_sets _ _ _ _) _ (by rw [HDv.out]; rfl)
  | true =>
    have hact0 : Hid (wordsA st ws = crashP st n1) := Lib.hid (by rw [HAct.out, ht1 rfl])
    clear ht1 hf1
    rcases Int.lt_or_le n1 0 with hneg | hneg
    · have hact : Hid (wordsA st ws = (st, badB)) := Lib.hid (by rw [hact0.out]; unfold crashP; rw [if_pos hneg])
      go_wp2
      refine bodyPost_ret (results_cellrow_tmp rfl _ _ (w.heap.size + 1) _ _ _ _ rfl (heap_setCell_same _ _ _ _ _ _ (heap_setCell_same _ _ _ _ _ _ HB2.out.b1)) Tryz.underlying78 rfl (by kernel_rfl)) rfl ?_
      rw [hact.out]
      exact dact_fin (r := (st, badB)) (by omega) HB2.out.low (HD.out.below HB2.out.low) HB2.out.b1 _ (two_sets _ _ _ _) _ (by rw [HDv.out]; rfl)
    · obtain ⟨k, rfl⟩ : ∃ k : Nat, n1 = k := ⟨n1.toNat, by omega⟩
      obtain ⟨r1, r2, r3, r4⟩ := HInv.out.crash k
      obtain ⟨r, hr⟩ : ∃ r, r = openP st0 (linesOf (st.T.take k)) := ⟨_, rfl⟩
      have hpA : Hid (wordsA st ws = (r.1, foundB ++ Lib.itoa (r.2.1 : Nat))) := Lib.hid (by
        rw [hact0.out]; unfold crashP
        rw [if_neg (by omega), Int.toNat_natCast, if_pos r1, hr])
      have hXs : X.size = st.T.length := by rw [HX.out]; exact mk_size _
      have hXb : X.size ≤ 1000000 := by have := HT.out; omega
      have hcut : ∀ m : Nat, (⟨(st.T.take m).toArray⟩ : ByteArray) = X.extract 0 m := fun m => by
        apply ByteArray.ext; apply Array.toList_inj.1
        rw [Lib.extract_data, HX.out]; simp
      have hopen : ∀ m W, st.T.take k = st.T.take m → Calls Tryz.prog 62 #[.string (X.extract 0 m)] W fun e w' => DOpenRes (st.T.take k) W e w' := fun m W e => by
        have h := DOpen_any (st.T.take m) W (by rw [List.length_take]; omega)
        rw [hcut m, ← e] at h
        exact h
      have HOpen := Lib.hid hopen
      obtain ⟨many, hmany⟩ : ∃ m, m = r.2.1 := ⟨_, rfl⟩
      have hmb : many ≤ 5000 := by rw [hmany, hr]; omega
      have HR := Lib.hid hr
      have HR1 : Hid (r.2.2 = 0) := Lib.hid (by rw [hr]; exact r1)
      have HMany := Lib.hid hmany
      obtain ⟨R, hR⟩ : ∃ R : ByteArray, R = ⟨(Lib.itoa (many : Nat)).toArray⟩ := ⟨_, rfl⟩
      have hRl := itoa_len (many : Nat) (by omega) (by omega)
      have hRs : R.size = (Lib.itoa (many : Nat)).length := by rw [hR]; exact mk_size _
      have hRd : R.data.toList = Lib.itoa (many : Nat) := by rw [hR]
      obtain ⟨X1, e1, z1⟩ := mk_list (foundB ++ R.data.toList)
      have cat := cat_run (P := Tryz.prog) ⟨#[102, 111, 117, 110, 100, 32]⟩ R X1 (by rw [e1]; rfl) (by show 6 + _ ≤ _; omega)
      obtain ⟨al, hal⟩ : ∃ al, al = foundB ++ Lib.itoa (many : Nat) := ⟨_, rfl⟩
      have HX1 : Hid (X1 = ⟨al.toArray⟩) := Lib.hid (by apply ByteArray.ext; apply Array.toList_inj.1; rw [e1, hRd, hal])
      have hpB : Hid (wordsA st ws = (r.1, al)) := Lib.hid (by rw [hpA.out, ← hmany, hal])
      clear hpA hal
      obtain ⟨s5, hs5⟩ : ∃ s5, s5 = r.1 := ⟨_, rfl⟩
      have HS5 := Lib.hid hs5
      clear hs5
      have HDg : Hid (∀ W, Calls Tryz.prog 57 #[.int .i64 (many : Nat)] W fun e w' => e = .returned (.string R) ∧ w' = W) := Lib.hid fun W => by rw [hR]; exact rdigits_all (many : Nat) (by omega) (by omega) W
      have HXe : Hid (X.extract 0 X.size = X) := Lib.hid (by
        rw [← hcut X.size, hXs, List.take_length, ← HX.out])
      obtain ⟨m, hmX, hmk, hmin⟩ : ∃ m : Nat, m ≤ X.size ∧ st.T.take k = st.T.take m ∧ (m = k ∧ k ≤ X.size ∨ m = X.size ∧ X.size < k) := by
        rcases Nat.lt_or_ge X.size k with c | c
        · exact ⟨_, Nat.le_refl _, by rw [hXs, List.take_length, List.take_of_length_le (by omega)], .inr ⟨rfl, c⟩⟩
        · exact ⟨k, c, rfl, .inl ⟨rfl, c⟩⟩
      have HO := Lib.hid (fun W => HOpen.out m W hmk)
      clear hopen hcut hXs hmany hr hR hRl hRs hRd e1 z1 r1 r2 r3 r4 hmk
      rcases hmin with ⟨rfl, hk⟩ | ⟨rfl, hk⟩
      · have hkI : (m : Int) ≤ (X.size : Int) := by omega
        have hgt : decide ((X.size : Int) < (m : Int)) = false := decide_eq_false (by omega)
        have hgt2 : decide (X.size < m) = false := decide_eq_false (by omega)
        clear hk
        go_wp2_with fail
        refine (HO.out _).mono ?_
        rintro e w4 ⟨hb4, hres⟩
        rw [← HR.out] at hres
        rw [HR1.out, ← HMany.out] at hres
        rcases hres with ⟨-, a4, c4, l4, rfl, hD4⟩ | ⟨hne, -⟩
        · have HB4 := Lib.hid (HB2.out.to hb4)
          rw [← HS5.out] at hD4 ⊢
          obtain ⟨n4, X4, hdv4⟩ := doc_hv s5 a4 c4 l4
          rw [hdv4]
          have HD4 := Lib.hid hD4
          have HDv4 := Lib.hid hdv4
          clear hD4 hb4 hdv4 c0 c1 d0 d1 f0 f1
          go_upto_region 25 with fail
          obtain ⟨W5, hW5⟩ : ∃ W5, W5 = w4.alloc (.cells #[.slice a4 n4 c4, .string X4] 78) := ⟨_, rfl⟩
          rw [← hW5]
          have b5 : Below w4.heap.size w4 W5 := by rw [hW5]; exact (Below.refl _ w4).alloc (Nat.le_refl _) _
          have y5 : W5.heap[w4.heap.size]? = some (.cells #[.slice a4 n4 c4, .string X4] 78 (0, 0)) := by rw [hW5]; exact heap_alloc_new _ _
          have HB5 := Lib.hid (HB4.out.to b5)
          have HD5 := Lib.hid (HD4.out.below b5)
          have p0 : W5.cell? ⟨w4.heap.size, 0, none⟩ = some (.slice a4 n4 c4) := by simp [World.cell?, y5]
          have p1 : W5.cell? ⟨w4.heap.size, 1, none⟩ = some (.string X4) := by simp [World.cell?, y5]
          clear hW5 b5 y5
          have c0 := HB5.out.c0
          have c1 := HB5.out.c1
          have d0 := HB5.out.d0
          have d1 := HB5.out.d1
          have f0 := HB5.out.f 0
          have f1 := HB5.out.f 1
          go_wp2_with fail
          go_region_with (go_at_call 57; refine (HDg.out _).mono ?_; rintro e w6 ⟨rfl, rfl⟩)
          all_goals
            go_wp2
            refine bodyPost_ret (results_cellrow_tmp rfl _ _ (w.heap.size + 1) _ _ _ _ rfl (heap_setCell_same _ _ _ _ _ _ (heap_setCell_same _ _ _ _ _ _ HB5.out.b1)) Tryz.underlying78 rfl (by kernel_rfl)) rfl ?_
            rw [hpB.out, ← HS5.out]
            refine dact_fin (r := (s5, al)) (by omega) HB5.out.low HD5.out HB5.out.b1 _ ?_ _ (act_ret HDv4.out HX1.out)
            exact (two_sets W5 (w.heap.size + 1) (.slice a4 n4 c4) (.string X4)).drewN 1
        · exact absurd rfl hne
      · have hgt : (X.size : Int) < (k : Int) := by omega
        clear hk
        go_wp2_with fail
        try rw [HXe.out]
        have HO2 := fun W => HO.out W
        rw [HXe.out] at HO2
        refine (HO2 _).mono ?_
        rintro e w4 ⟨hb4, hres⟩
        rw [← HR.out] at hres
        rw [HR1.out, ← HMany.out] at hres
        rcases hres with ⟨-, a4, c4, l4, rfl, hD4⟩ | ⟨hne, -⟩
        · have HB4 := Lib.hid (HB2.out.to hb4)
          rw [← HS5.out] at hD4 ⊢
          obtain ⟨n4, X4, hdv4⟩ := doc_hv s5 a4 c4 l4
          rw [hdv4]
          have HD4 := Lib.hid hD4
          have HDv4 := Lib.hid hdv4
          clear hD4 hb4 hdv4 c0 c1 d0 d1 f0 f1
          go_upto_region 25 with fail
          obtain ⟨W5, hW5⟩ : ∃ W5, W5 = w4.alloc (.cells #[.slice a4 n4 c4, .string X4] 78) := ⟨_, rfl⟩
          rw [← hW5]
          have b5 : Below w4.heap.size w4 W5 := by rw [hW5]; exact (Below.refl _ w4).alloc (Nat.le_refl _) _
          have y5 : W5.heap[w4.heap.size]? = some (.cells #[.slice a4 n4 c4, .string X4] 78 (0, 0)) := by rw [hW5]; exact heap_alloc_new _ _
          have HB5 := Lib.hid (HB4.out.to b5)
          have HD5 := Lib.hid (HD4.out.below b5)
          have p0 : W5.cell? ⟨w4.heap.size, 0, none⟩ = some (.slice a4 n4 c4) := by simp [World.cell?, y5]
          have p1 : W5.cell? ⟨w4.heap.size, 1, none⟩ = some (.string X4) := by simp [World.cell?, y5]
          clear hW5 b5 y5
          have c0 := HB5.out.c0
          have c1 := HB5.out.c1
          have d0 := HB5.out.d0
          have d1 := HB5.out.d1
          have f0 := HB5.out.f 0
          have f1 := HB5.out.f 1
          go_wp2_with fail
          go_region_with (go_at_call 57; refine (HDg.out _).mono ?_; rintro e w6 ⟨rfl, rfl⟩)
          all_goals
            go_wp2
            refine bodyPost_ret (results_cellrow_tmp rfl _ _ (w.heap.size + 1) _ _ _ _ rfl (heap_setCell_same _ _ _ _ _ _ (heap_setCell_same _ _ _ _ _ _ HB5.out.b1)) Tryz.underlying78 rfl (by kernel_rfl)) rfl ?_
            rw [hpB.out, ← HS5.out]
            refine dact_fin (r := (s5, al)) (by omega) HB5.out.low HD5.out HB5.out.b1 _ ?_ _ (act_ret HDv4.out HX1.out)
            exact (two_sets W5 (w.heap.size + 1) (.slice a4 n4 c4) (.string X4)).drewN 1
        · exact absurd rfl hne
end Go.Proofs.YtfejlkgddnamoaaGreatDoor
