/- WALK: the document's Session; the law DeskAnswers. -/
import Derived.Test.YtfejlkgddnamoaaGreatDoorDocActMany
import Derived.Test.YtfejlkgddnamoaaGreatDoorDocActPop
import Derived.Test.YtfejlkgddnamoaaGreatDoorDocActPush
import Derived.Test.YtfejlkgddnamoaaGreatDoorDocActCrash
import Derived.Test.YtfejlkgddnamoaaGreatDoorDocActOther
import Derived.Test.YtfejlkgddnamoaaGreatDoorDeskRun
set_option linter.unusedVariables false
set_option linter.unusedSimpArgs false
namespace Go.Proofs.YtfejlkgddnamoaaGreatDoor
open Go Go.RowKit SimPlain HeapPlain BookPlain NumPlain SpPlain LinesPlain

theorem ract_any (st : St) (a : Option Addr) (c : Nat) (l : List Ev) (w : World) (h : DocS w st a c l) (j : Nat) (inv : Inv st j) (hj : j ≤ 5000) (s : List UInt8) (hs : s.length ≤ 1000000) :
    Calls Tryz.prog 38 #[docV st a c l, .string ⟨s.toArray⟩] w fun e w' => DActRes (actP st s) w e w' := by
  show Calls Tryz.prog 38 #[docV st a c l, .string ⟨s.toArray⟩] w fun e w' => DActRes (wordsA st (splitSp s)) w e w'
  by_cases hm : (splitSp s).length = 1 ∧ (splitSp s).getD 0 [] = manyW
  · have h' := ract_many st a c l w h j inv hj s hs _ rfl hm.2 hm.1
    rw [← wordsA_many st _ hm.2 hm.1] at h'
    exact h'
  by_cases hp : (splitSp s).length = 1 ∧ (splitSp s).getD 0 [] = popB
  · have h' := ract_pop st a c l w h j inv hj s hs _ rfl hp.2 hp.1
    rw [← wordsA_pop st _ hp.2 hp.1] at h'
    exact h'
  by_cases hu : (splitSp s).length = 3 ∧ (splitSp s).getD 0 [] = pushW
  · exact ract_push st a c l w h j inv hj s hs _ rfl hu.2 hu.1
  by_cases hc : (splitSp s).length = 2 ∧ (splitSp s).getD 0 [] = crashW
  · exact ract_crash st a c l w h j inv hj s hs _ rfl hc.2 hc.1
  have hno : wordsA st (splitSp s) = (st, badB) := by
    unfold wordsA
    rw [if_neg hm, if_neg hp, if_neg hu, if_neg hc]
  exact ract_other st a c l w h j inv hj s hs _ rfl _ rfl (fun e => ⟨fun e2 => hm ⟨e, e2⟩, fun e2 => hp ⟨e, e2⟩⟩) (fun e e2 => hc ⟨e, e2⟩) (fun e e2 => hu ⟨e, e2⟩) hno
/-- between two lines of a session: whole lines up to f, all done; b3: the document's book -/
structure SesI (s : List UInt8) (w : World) (f : Nat) (pre : List (List UInt8)) (a : Option Addr) (c n : Nat) (X : ByteArray) (l : List Ev) (W : World) : Prop where
  cut : linesOf s = pre ++ linesOf (s.drop f)
  le : f ≤ s.length + 1
  doc : DocS W (stateA st0 pre) a c l
  hv : docV (stateA st0 pre) a c l = .agg #[.slice a n c, .string X]
  box : W.heap[w.heap.size]? = some (.cells #[.slice a n c, .string X] 78 (0, 0))
  low : Below w.heap.size w W
theorem ses_cut {s : List UInt8} {f i : Nat} {pre : List (List UInt8)} (h : linesOf s = pre ++ linesOf (s.drop f)) (hf : f < s.length) (hfi : f ≤ i) (hi : i ≤ s.length) (hno : (10 : UInt8) ∉ (s.take i).drop f) (hend : i = s.length ∨ s.getD i 0 = 10) :
    ∃ x, linesOf s = (pre ++ [x]) ++ linesOf (s.drop (i + 1)) ∧ Lib.trimSuffix x [10] = (s.take i).drop f := by
  rcases Nat.lt_or_ge i s.length with c | c
  · have h10 : s.getD i 0 = 10 := by
      rcases hend with e | e
      · omega
      · exact e
    refine ⟨(s.take i).drop f ++ [10], ?_, trim_end _⟩
    have e : s.drop f = (s.take i).drop f ++ 10 :: s.drop (i + 1) := by
      conv => lhs; rw [← List.take_append_drop i s]
      rw [List.drop_append_of_le_length (by rw [List.length_take]; omega), List.drop_eq_getElem_cons c]
      congr 2
      rw [List.getD_eq_getElem?_getD, List.getElem?_eq_getElem c] at h10
      exact h10
    rw [h, e, linesOf_end _ _ hno]; simp
  · have hil : i = s.length := by omega
    subst hil
    rw [List.take_length] at hno ⊢
    have hne : s.drop f ≠ [] := by
      intro e
      have := congrArg List.length e
      rw [List.length_drop] at this; simp at this; omega
    refine ⟨s.drop f, ?_, ?_⟩
    · have e0 : s.drop (s.length + 1) = [] := List.drop_eq_nil_of_le (by omega)
      rw [h, linesOf_no _ hno hne, e0, linesOf_nil]; simp
    · unfold Lib.trimSuffix
      rw [suffix_no hno, if_neg (by decide)]
theorem no_more (s : List UInt8) (f i : Nat) (hf : f ≤ i) (hi : i < s.length) (h : s.getD i 0 ≠ 10) (hno : (10 : UInt8) ∉ (s.take i).drop f) : (10 : UInt8) ∉ (s.take (i + 1)).drop f := by
  rw [List.take_add_one, List.getElem?_eq_getElem hi, List.drop_append_of_le_length (by rw [List.length_take]; omega)]
  rw [List.getD_eq_getElem?_getD, List.getElem?_eq_getElem hi] at h
  intro m
  rcases List.mem_append.1 m with m | m
  · exact hno m
  · rw [Option.toList_some, List.mem_singleton] at m
    exact h m.symm
theorem ses_next {s t x : List UInt8} {w wr V : World} {i : Nat} {pre : List (List UInt8)} {a a4 : Option Addr} {c n c4 n4 : Nat} {X X4 : ByteArray} {l4 : List Ev} (hc : linesOf s = (pre ++ [x]) ++ linesOf (s.drop (i + 1))) (ht : Lib.trimSuffix x [10] = t) (hi : i ≤ s.length) (low0 : Below w.heap.size w wr) (low : Below wr.heap.size wr V)
    (doc : DocS V (actP (stateA st0 pre) t).1 a4 c4 l4) (hv : docV (actP (stateA st0 pre) t).1 a4 c4 l4 = .agg #[.slice a4 n4 c4, .string X4]) (x1 : V.heap[w.heap.size]? = some (.cells #[.slice a n c, .string X] 78 (0, 0))) (V' : World) (hV : V' = (V.setCell ⟨w.heap.size, 0, none⟩ (.slice a4 n4 c4)).setCell ⟨w.heap.size, 1, none⟩ (.string X4)) :
    SesI s w (i + 1) (pre ++ [x]) a4 c4 n4 X4 l4 V' := by
  have o : Only V V' (fun j => j = w.heap.size) := by
    rw [hV]
    exact (Only.setCell V ⟨w.heap.size, 0, none⟩ _ (fun j => j = w.heap.size) rfl).trans (Only.setCell _ ⟨w.heap.size, 1, none⟩ _ (fun j => j = w.heap.size) rfl) (fun _ _ c => c)
  have e : stateA st0 (pre ++ [x]) = (actP (stateA st0 pre) t).1 := by rw [stateA_snoc]; unfold lineA; rw [ht]
  have b := low0.trans (low.mono low0.size)
  refine ⟨hc, by omega, by rw [e]; exact doc.book x1 o, by rw [e]; exact hv, ?_, b.trans (o.below b.size (fun k c => by omega))⟩
  rw [hV]; exact heap_setCell_same _ _ _ _ _ _ (heap_setCell_same _ _ _ _ _ _ x1)
set_option maxRecDepth 100000 in
set_option maxHeartbeats 8000000 in
theorem Session_any (s : List UInt8) (w : World) (hs : s.length ≤ 9223372036854775807) :
    Calls Tryz.prog 17 #[.string ⟨s.toArray⟩] w fun e w' => e = .returned (.string ⟨(runP s).toArray⟩) ∧ Below w.heap.size w w' := by
  obtain ⟨Y, hY⟩ : ∃ Y : ByteArray, Y = ⟨s.toArray⟩ := ⟨_, rfl⟩
  have hYs : Y.size = s.length := by rw [hY]; exact mk_size _
  have HGet : Hid (∀ j (hj : j < Y.size), Y[j]'hj = s.getD j 0) := Lib.hid fun j hj => by
    subst hY
    rw [List.getD_eq_getElem?_getD, List.getElem?_eq_getElem (by omega)]
    rfl
  rw [← hY]
  by_cases hlong : 3000 < s.length
  · have hr : Hid (runP s = tooB) := Lib.hid (by unfold runP; rw [if_pos hlong])
    have hlongI : (3000 : Int) < (Y.size : Int) := by omega
    clear hlong hY hYs hs HGet
    go_enter Tryz.func17, Tryz.ntmps17
    go_wp2
    go_ret
    exact ⟨by rw [hr.out]; rfl, Below.refl _ _⟩
  · have hr : Hid (runP s = sessP st0 (linesOf s)) := Lib.hid (by unfold runP; rw [if_neg hlong])
    have hshortI : (Y.size : Int) ≤ 3000 := by omega
    have hL := lines_many _ s (Nat.le_refl _)
    have HL : Hid ((linesOf s).length ≤ 3000) := Lib.hid (by omega)
    have hcut : ∀ i f : Nat, f ≤ i → i ≤ Y.size → (⟨((s.take i).drop f).toArray⟩ : ByteArray) = Y.extract f i := fun i f h1 h2 => by
      apply ByteArray.ext; apply Array.toList_inj.1
      rw [Lib.extract_data, hY]
      simp [List.drop_take]
    have HCut := Lib.hid hcut
    have HYs := Lib.hid hYs
    obtain ⟨W0, hW0⟩ : ∃ W0, W0 = w.alloc (.cells #[.slice none 0 0, .string ⟨#[]⟩] 78) := ⟨_, rfl⟩
    have hb0 : W0.heap[w.heap.size]? = some (.cells #[.slice none 0 0, .string ⟨#[]⟩] 78 (0, 0)) := by rw [hW0]; exact heap_alloc_new _ _
    have low0 : Below w.heap.size w W0 := by rw [hW0]; exact (Below.refl _ w).alloc (Nat.le_refl _) _
    have HI0 : Hid (SesI s w 0 [] none 0 0 ⟨#[]⟩ [] W0) := Lib.hid ⟨by rw [List.drop_zero]; rfl, by omega, ⟨⟨0, EtOwn.nil _ _⟩, Two.zero, fun _ => ⟨rfl, rfl⟩, by decide, by decide⟩, rfl, hb0, low0⟩
    clear hlong hY hs hL hcut hYs hb0 low0
    go_enter Tryz.func17, Tryz.ntmps17
    go_wp2_with fail
    rw [← hW0]
    clear hW0
    go_loopw [4, 5] (fun ov fv wr => ∃ (f : Nat) (pre : List (List UInt8)) (a : Option Addr) (c n : Nat) (X : ByteArray) (l : List Ev) (O : ByteArray), ov = .string O ∧ O = ⟨(sessP st0 pre).toArray⟩ ∧ fv = .int .i64 f ∧ f ≤ 3001 ∧ SesI s w f pre a c n X l wr) (fun _ fv _ => 3001 - (intOf fv).toNat)
    case atStart => exact ⟨0, [], none, 0, 0, ⟨#[]⟩, [], ⟨#[]⟩, rfl, rfl, rfl, by omega, HI0.out⟩
    case round =>
      obtain ⟨f, pre, a, c, n, X, l, O, rfl, hO, rfl, hf, hI⟩ := hrel
      have HI := Lib.hid hI
      have HO := Lib.hid hO
      have x0 := hI.box
      have c0 : wr.cell? ⟨w.heap.size, 0, none⟩ = some (.slice a n c) := by simp [World.cell?, x0]
      have c1 : wr.cell? ⟨w.heap.size, 1, none⟩ = some (.string X) := by simp [World.cell?, x0]
      have hprel : pre.length ≤ 3000 := by
        have h := congrArg List.length hI.cut
        rw [List.length_append] at h
        have := HL.out; omega
      have hOs : O.size ≤ 160000 := by
        have h1 := (sess_count pre st0 0 Inv.zero (by omega)).2.1
        rw [hO, mk_size]; omega
      rcases Nat.lt_or_ge f Y.size with hlt | hge
      · have hfI : (f : Int) < (Y.size : Int) := by omega
        have HX0a : Hid ((wr.alloc (.cells #[.slice none 0 0, .string ⟨#[]⟩] 78)).drew.heap[w.heap.size]? = some (.cells #[.slice a n c, .string X] 78 (0, 0))) := Lib.hid (by
          show (wr.alloc (.cells #[.slice none 0 0, .string ⟨#[]⟩] 78)).heap[w.heap.size]? = _
          rw [Below.heap_alloc _ _ _ (lt_of_block x0)]; exact x0)
        have BX := Lib.hid x0
        clear hI hO x0
        go_wp2_with fail
        go_loopw [6] (fun iv wz => ∃ i : Nat, iv = .int .i64 i ∧ f ≤ i ∧ i ≤ Y.size ∧ (10 : UInt8) ∉ (s.take i).drop f ∧ wz = wr) (fun iv _ => Y.size - (intOf iv).toNat)
        case atStart => exact ⟨f, rfl, Nat.le_refl _, by omega, by rw [List.drop_eq_nil_of_le (by rw [List.length_take]; omega)]; simp, rfl⟩
        case round =>
          obtain ⟨i, rfl, hfi, hiY, hno, rfl⟩ := hrel
          have step : (i = Y.size ∨ s.getD i 0 = 10) → Hid (∃ x, linesOf s = (pre ++ [x]) ++ linesOf (s.drop (i + 1)) ∧ Lib.trimSuffix x [10] = (s.take i).drop f) := fun h => Lib.hid (ses_cut HI.out.cut (by rw [← HYs.out]; exact hlt) hfi (by rw [← HYs.out]; exact hiY) hno (by rw [← HYs.out]; exact h))
          --ROUND
          rcases Nat.lt_or_ge i Y.size with hlt2 | hge2
          · by_cases h10 : s.getD i 0 = 10
            · have hb : ((((Y[i]'hlt2).toNat : Nat) : Int) == 10) = true := by rw [HGet.out i hlt2, h10]; rfl
              have hltI : (i : Int) < (Y.size : Int) := by omega
              obtain ⟨x, hx1, hx2⟩ := (step (.inr h10)).out
              have HX : Hid (linesOf s = (pre ++ [x]) ++ linesOf (s.drop (i + 1)) ∧ Lib.trimSuffix x [10] = (s.take i).drop f) := Lib.hid ⟨hx1, hx2⟩
              obtain ⟨t, ht⟩ : ∃ t, t = (s.take i).drop f := ⟨_, rfl⟩
              have hHX := HX.out
              rw [← ht] at hHX
              have HX := Lib.hid hHX
              have HiS : Hid (i ≤ s.length) := Lib.hid (by rw [← HYs.out]; exact hiY)
              obtain ⟨st, hst⟩ : ∃ st, st = stateA st0 pre := ⟨_, rfl⟩
              have inv : Inv st pre.length := by rw [hst]; have h := Inv.all st0 0 Inv.zero pre; rwa [Nat.zero_add] at h
              have htl : t.length ≤ 3000 := by
                have := HiS.out
                have := HYs.out
                rw [ht, List.length_drop, List.length_take]; omega
              obtain ⟨Zb, hZb⟩ : ∃ Zb : ByteArray, Zb = ⟨(actP st t).2.toArray⟩ := ⟨_, rfl⟩
              have hfY : f ≤ Y.size := by omega
              have hline : ∀ W, Below wr.heap.size wr W → Calls Tryz.prog 38 #[.agg #[.slice a n c, .string X], .string (Y.extract f i)] W fun e w' => (∃ a c l, e = .returned (.tuple #[docV (actP st t).1 a c l, .string Zb]) ∧ DocS w' (actP st t).1 a c l) ∧ Below W.heap.size W w' := fun W b => by
                have h := ract_any st a c l W (by rw [hst]; exact HI.out.doc.below b) pre.length inv (by omega) t (by omega)
                rw [show docV st a c l = .agg #[.slice a n c, .string X] by rw [hst]; exact HI.out.hv, ht, HCut.out i f hfi hiY, ← ht] at h
                rw [hZb]; exact h
              have HAct := Lib.hid hline
              obtain ⟨-, hal⟩ := act_no inv (by omega) t
              have hZs : Zb.size ≤ 100 := by rw [hZb, mk_size]; omega
              obtain ⟨X1, e1, z1⟩ := mk_list (O.data.toList ++ Zb.data.toList)
              obtain ⟨X2, e2, z2⟩ := mk_list (X1.data.toList ++ [10])
              have s1 : X1.size = O.size + Zb.size := by rw [z1, List.length_append, ← Lib.size_eq, ← Lib.size_eq]
              have w1 := cat_run (P := Tryz.prog) O Zb X1 (by rw [e1]) (by omega)
              have w2 := cat_run (P := Tryz.prog) X1 ⟨#[10]⟩ X2 (by rw [e2]) (by show _ + 1 ≤ _; omega)
              have HX2 : Hid (X2 = ⟨(sessP st0 (pre ++ [x])).toArray⟩) := Lib.hid (by
                apply ByteArray.ext; apply Array.toList_inj.1
                rw [e2, e1, HO.out, hZb, sess_snoc]
                unfold lineA
                rw [HX.out.2, ← hst]; simp)
              have c0a : (wr.alloc (.cells #[.slice none 0 0, .string ⟨#[]⟩] 78)).drew.cell? ⟨w.heap.size, 0, none⟩ = some (.slice a n c) := by unfold World.cell?; rw [HX0a.out]; rfl
              have c1a : (wr.alloc (.cells #[.slice none 0 0, .string ⟨#[]⟩] 78)).drew.cell? ⟨w.heap.size, 1, none⟩ = some (.string X) := by unfold World.cell?; rw [HX0a.out]; rfl
              have hfI2 : (f : Int) ≤ (i : Int) := by omega
              subst hst
              clear hx1 hx2 hHX ht inv htl hline hal hZb hZs e1 e2 z1 z2 s1 hno step
              clear h10
              go_wp2_with fail
              refine wp_region_any (by kernel_rfl) ?_
              try (change wpAny _ _ _ _ _ _ _ (World.drew _))
              refine wpAny_take (i := 1) (v := ?_) rfl (by kernel_rfl) (by kernel_rfl) (by kernel_rfl) (fun _ _ _ h => h) (Or.inl ⟨by kernel_rfl, ?_⟩) ?_
              rotate_left
              · (intro w; go_simp; try with_reducible rfl)
              refine wpAny_take (i := 2) (v := ?_) rfl (by kernel_rfl) (by kernel_rfl) (by kernel_rfl) (fun _ _ _ h => h) (Or.inl ⟨by kernel_rfl, ?_⟩) ?_
              rotate_left
              · (intro w; go_simp; try with_reducible rfl)
              refine wpAny_take (i := 3) (v := ?_) rfl (by kernel_rfl) (by kernel_rfl) (by kernel_rfl) (fun _ _ _ h => h) (Or.inl ⟨by kernel_rfl, ?_⟩) ?_
              rotate_left
              · (intro w; go_simp; try with_reducible rfl)
              refine wpAny_take (i := 4) (v := ?_) rfl (by kernel_rfl) (by kernel_rfl) (by kernel_rfl) (fun _ _ _ h => h) (Or.inl ⟨by kernel_rfl, ?_⟩) ?_
              rotate_left
              · (intro w; go_simp; try with_reducible rfl)
              refine wpAny_ready (rs := [0, 9]) (by kernel_rfl) (by simp) ?_
              refine AllReady.cons rfl (fun K hK => ?_) (AllReady.cons rfl (fun K hK => ?_) (AllReady.nil))
              · go_simp
                refine hK _ _ ?_
                clear hK K
                refine wpAny_ready (rs := [5, 9]) (by kernel_rfl) (by simp) ?_
                refine AllReady.cons rfl (fun K hK => ?_) (AllReady.cons rfl (fun K hK => ?_) (AllReady.nil))
                ·
                  go_simp
                  go_at_call 38
                  refine (HAct.out _ (below_drewN (Below.refl _ _) 1)).mono ?_
                  rintro e w4 ⟨⟨a4, c4, l4, rfl, hD4⟩, hb4⟩
                  obtain ⟨n4, X4, hdv4⟩ := doc_hv (actP (stateA st0 pre) t).1 a4 c4 l4
                  rw [hdv4]
                  have HD4 := Lib.hid hD4
                  have HB4 : Hid (Below wr.heap.size wr w4) := Lib.hid ((below_drewN (Below.refl _ _) 1).trans hb4)
                  have HDv4 := Lib.hid hdv4
                  clear hD4 hb4 hdv4
                  go_wp2_with fail
                  refine wpAny_take (i := 6) (v := ?_) rfl (by kernel_rfl) (by kernel_rfl) (by kernel_rfl) (fun _ _ _ h => h) (Or.inl ⟨by kernel_rfl, ?_⟩) ?_
                  rotate_left
                  · (intro w; go_simp; try with_reducible rfl)
                  refine wpAny_take (i := 7) (v := ?_) rfl (by kernel_rfl) (by kernel_rfl) (by kernel_rfl) (fun _ _ _ h => h) (Or.inl ⟨by kernel_rfl, ?_⟩) ?_
                  rotate_left
                  · (intro w; go_simp; try with_reducible rfl)
                  refine wpAny_ready (rs := [8, 9]) (by kernel_rfl) (by simp) ?_
                  refine AllReady.cons rfl (fun K hK => ?_) (AllReady.cons rfl (fun K hK => ?_) (AllReady.nil))
                  · go_simp
                    refine hK _ _ ?_
                    clear hK K
                    refine wpAny_ready (rs := [9]) (by kernel_rfl) (by simp) ?_
                    refine AllReady.cons rfl (fun K hK => ?_) (AllReady.nil)
                    go_simp
                    refine hK _ _ ?_
                    clear hK K
                    refine wpAny_ready (rs := [10]) (by kernel_rfl) (by simp) ?_
                    refine AllReady.cons rfl (fun K hK => ?_) (AllReady.nil)
                    go_simp
                    refine hK _ _ ?_
                    clear hK K
                    refine wpAny_ready (rs := [11]) (by kernel_rfl) (by simp) ?_
                    refine AllReady.cons rfl (fun K hK => ?_) (AllReady.nil)
                    go_simp
                    refine hK _ _ ?_
                    clear hK K
                    refine wpAny_done (by kernel_rfl) ?_ _
                    obtain ⟨p, hp⟩ : ∃ p, p = w4.heap.size := ⟨_, rfl⟩
                    obtain ⟨V, hV⟩ : ∃ V, V = w4.alloc (.cells #[.slice a4 n4 c4, .string X4] 78) := ⟨_, rfl⟩
                    rw [← hV, ← hp]
                    have HF : Hid (DocF w wr w4 (actP (stateA st0 pre) t).1 a4 c4 l4 p #[.slice a4 n4 c4, .string X4] V) := Lib.hid (by rw [hV, hp]; exact doc_f1 HB4.out HD4.out)
                    clear hV hp
                    have x1' : V.heap[w.heap.size]? = some (.cells #[.slice a n c, .string X] 78 (0, 0)) := (HF.out.low.block _ (lt_of_block BX.out)).trans BX.out
                    have y := HF.out.box
                    have p0 : V.cell? ⟨p, 0, none⟩ = some (.slice a4 n4 c4) := by simp [World.cell?, y]
                    have p1 : V.cell? ⟨p, 1, none⟩ = some (.string X4) := by simp [World.cell?, y]
                    have q0 : V.cell? ⟨w.heap.size, 0, none⟩ = some (.slice a n c) := by simp [World.cell?, x1']
                    have q1 : V.cell? ⟨w.heap.size, 1, none⟩ = some (.string X) := by simp [World.cell?, x1']
                    have r0 : V.frozen? ⟨w.heap.size, 0, none⟩ = false := by simp [World.frozen?, x1']
                    have r1 : V.frozen? ⟨w.heap.size, 1, none⟩ = false := by simp [World.frozen?, x1']
                    have XX1 := Lib.hid x1'
                    clear x1' y c0 c1 c0a c1a
                    go_wp2
                    go_roundw
                    case rel => exact ⟨i + 1, pre ++ [x], a4, c4, n4, X4, l4, X2, by simp, HX2.out, by simp, by omega, ses_next HX.out.1 HX.out.2 HiS.out HI.out.low HF.out.low HF.out.doc HDv4.out XX1.out _ rfl⟩
                    case measure => simp only [intOf]; omega
                  · go_simp
                    refine hK _ _ ?_
                    clear hK K
                    refine wpAny_ready (rs := [8, 10]) (by kernel_rfl) (by simp) ?_
                    refine AllReady.cons rfl (fun K hK => ?_) (AllReady.cons rfl (fun K hK => ?_) (AllReady.nil))
                    · go_simp
                      refine hK _ _ ?_
                      clear hK K
                      refine wpAny_ready (rs := [10]) (by kernel_rfl) (by simp) ?_
                      refine AllReady.cons rfl (fun K hK => ?_) (AllReady.nil)
                      go_simp
                      refine hK _ _ ?_
                      clear hK K
                      refine wpAny_ready (rs := [11]) (by kernel_rfl) (by simp) ?_
                      refine AllReady.cons rfl (fun K hK => ?_) (AllReady.nil)
                      go_simp
                      refine hK _ _ ?_
                      clear hK K
                      refine wpAny_done (by kernel_rfl) ?_ _
                      obtain ⟨p, hp⟩ : ∃ p, p = w4.heap.size := ⟨_, rfl⟩
                      obtain ⟨V, hV⟩ : ∃ V, V = w4.alloc (.cells #[.slice a4 n4 c4, .string X4] 78) := ⟨_, rfl⟩
                      rw [← hV, ← hp]
                      have HF : Hid (DocF w wr w4 (actP (stateA st0 pre) t).1 a4 c4 l4 p #[.slice a4 n4 c4, .string X4] V) := Lib.hid (by rw [hV, hp]; exact doc_f1 HB4.out HD4.out)
                      clear hV hp
                      have x1' : V.heap[w.heap.size]? = some (.cells #[.slice a n c, .string X] 78 (0, 0)) := (HF.out.low.block _ (lt_of_block BX.out)).trans BX.out
                      have y := HF.out.box
                      have p0 : V.cell? ⟨p, 0, none⟩ = some (.slice a4 n4 c4) := by simp [World.cell?, y]
                      have p1 : V.cell? ⟨p, 1, none⟩ = some (.string X4) := by simp [World.cell?, y]
                      have q0 : V.cell? ⟨w.heap.size, 0, none⟩ = some (.slice a n c) := by simp [World.cell?, x1']
                      have q1 : V.cell? ⟨w.heap.size, 1, none⟩ = some (.string X) := by simp [World.cell?, x1']
                      have r0 : V.frozen? ⟨w.heap.size, 0, none⟩ = false := by simp [World.frozen?, x1']
                      have r1 : V.frozen? ⟨w.heap.size, 1, none⟩ = false := by simp [World.frozen?, x1']
                      have XX1 := Lib.hid x1'
                      clear x1' y c0 c1 c0a c1a
                      go_wp2
                      go_roundw
                      case rel => exact ⟨i + 1, pre ++ [x], a4, c4, n4, X4, l4, X2, by simp, HX2.out, by simp, by omega, ses_next HX.out.1 HX.out.2 HiS.out HI.out.low HF.out.low HF.out.doc HDv4.out XX1.out _ rfl⟩
                      case measure => simp only [intOf]; omega
                    · go_simp
                      refine hK _ _ ?_
                      clear hK K
                      refine wpAny_ready (rs := [8]) (by kernel_rfl) (by simp) ?_
                      refine AllReady.cons rfl (fun K hK => ?_) (AllReady.nil)
                      go_simp
                      refine hK _ _ ?_
                      clear hK K
                      refine wpAny_ready (rs := [11]) (by kernel_rfl) (by simp) ?_
                      refine AllReady.cons rfl (fun K hK => ?_) (AllReady.nil)
                      go_simp
                      refine hK _ _ ?_
                      clear hK K
                      refine wpAny_done (by kernel_rfl) ?_ _
                      obtain ⟨p, hp⟩ : ∃ p, p = w4.heap.size := ⟨_, rfl⟩
                      obtain ⟨V, hV⟩ : ∃ V, V = w4.alloc (.cells #[.slice a4 n4 c4, .string X4] 78) := ⟨_, rfl⟩
                      rw [← hV, ← hp]
                      have HF : Hid (DocF w wr w4 (actP (stateA st0 pre) t).1 a4 c4 l4 p #[.slice a4 n4 c4, .string X4] V) := Lib.hid (by rw [hV, hp]; exact doc_f1 HB4.out HD4.out)
                      clear hV hp
                      have x1' : V.heap[w.heap.size]? = some (.cells #[.slice a n c, .string X] 78 (0, 0)) := (HF.out.low.block _ (lt_of_block BX.out)).trans BX.out
                      have y := HF.out.box
                      have p0 : V.cell? ⟨p, 0, none⟩ = some (.slice a4 n4 c4) := by simp [World.cell?, y]
                      have p1 : V.cell? ⟨p, 1, none⟩ = some (.string X4) := by simp [World.cell?, y]
                      have q0 : V.cell? ⟨w.heap.size, 0, none⟩ = some (.slice a n c) := by simp [World.cell?, x1']
                      have q1 : V.cell? ⟨w.heap.size, 1, none⟩ = some (.string X) := by simp [World.cell?, x1']
                      have r0 : V.frozen? ⟨w.heap.size, 0, none⟩ = false := by simp [World.frozen?, x1']
                      have r1 : V.frozen? ⟨w.heap.size, 1, none⟩ = false := by simp [World.frozen?, x1']
                      have XX1 := Lib.hid x1'
                      clear x1' y c0 c1 c0a c1a
                      go_wp2
                      go_roundw
                      case rel => exact ⟨i + 1, pre ++ [x], a4, c4, n4, X4, l4, X2, by simp, HX2.out, by simp, by omega, ses_next HX.out.1 HX.out.2 HiS.out HI.out.low HF.out.low HF.out.doc HDv4.out XX1.out _ rfl⟩
                      case measure => simp only [intOf]; omega
                · go_simp
                  refine hK _ _ ?_
                  clear hK K
                  refine wpAny_ready (rs := [5]) (by kernel_rfl) (by simp) ?_
                  refine AllReady.cons rfl (fun K hK => ?_) (AllReady.nil)
                  go_simp
                  go_at_call 38
                  refine (HAct.out _ ((below_drewN (Below.refl _ _) 1).alloc (by simp) _)).mono ?_
                  rintro e w4 ⟨⟨a4, c4, l4, rfl, hD4⟩, hb4⟩
                  obtain ⟨n4, X4, hdv4⟩ := doc_hv (actP (stateA st0 pre) t).1 a4 c4 l4
                  rw [hdv4]
                  have HD4 := Lib.hid hD4
                  have HB4 : Hid (Below wr.heap.size wr w4) := Lib.hid (((below_drewN (Below.refl _ _) 1).alloc (by simp) _).trans (hb4.mono (by show wr.heap.size ≤ (wr.alloc _).heap.size; simp)))
                  have HDv4 := Lib.hid hdv4
                  have z : w4.heap[wr.heap.size]? = some (.cells #[.slice none 0 0, .string ⟨#[]⟩] 78 (0, 0)) := doc_box hb4
                  have p0 : w4.cell? ⟨wr.heap.size, 0, none⟩ = some (.slice none 0 0) := by simp [World.cell?, z]
                  have p1 : w4.cell? ⟨wr.heap.size, 1, none⟩ = some (.string ⟨#[]⟩) := by simp [World.cell?, z]
                  have r0 : w4.frozen? ⟨wr.heap.size, 0, none⟩ = false := by simp [World.frozen?, z]
                  have r1 : w4.frozen? ⟨wr.heap.size, 1, none⟩ = false := by simp [World.frozen?, z]
                  have Z := Lib.hid z
                  clear z
                  clear hD4 hb4 hdv4
                  go_wp2_with fail
                  refine wpAny_take (i := 6) (v := ?_) rfl (by kernel_rfl) (by kernel_rfl) (by kernel_rfl) (fun _ _ _ h => h) (Or.inl ⟨by kernel_rfl, ?_⟩) ?_
                  rotate_left
                  · (intro w; go_simp; try with_reducible rfl)
                  refine wpAny_take (i := 7) (v := ?_) rfl (by kernel_rfl) (by kernel_rfl) (by kernel_rfl) (fun _ _ _ h => h) (Or.inl ⟨by kernel_rfl, ?_⟩) ?_
                  rotate_left
                  · (intro w; go_simp; try with_reducible rfl)
                  refine wpAny_ready (rs := [8, 10]) (by kernel_rfl) (by simp) ?_
                  refine AllReady.cons rfl (fun K hK => ?_) (AllReady.cons rfl (fun K hK => ?_) (AllReady.nil))
                  · go_simp
                    refine hK _ _ ?_
                    clear hK K
                    refine wpAny_ready (rs := [10]) (by kernel_rfl) (by simp) ?_
                    refine AllReady.cons rfl (fun K hK => ?_) (AllReady.nil)
                    go_simp
                    refine hK _ _ ?_
                    clear hK K
                    refine wpAny_ready (rs := [11]) (by kernel_rfl) (by simp) ?_
                    refine AllReady.cons rfl (fun K hK => ?_) (AllReady.nil)
                    go_simp
                    refine hK _ _ ?_
                    clear hK K
                    refine wpAny_done (by kernel_rfl) ?_ _
                    obtain ⟨V, hV⟩ : ∃ V, V = (w4.setCell ⟨wr.heap.size, 0, none⟩ (.slice a4 n4 c4)).setCell ⟨wr.heap.size, 1, none⟩ (.string X4) := ⟨_, rfl⟩
                    obtain ⟨p, hp⟩ : ∃ p, p = wr.heap.size := ⟨_, rfl⟩
                    rw [← hV, ← hp]
                    have HF : Hid (DocF w wr w4 (actP (stateA st0 pre) t).1 a4 c4 l4 p #[.slice a4 n4 c4, .string X4] V) := Lib.hid (by rw [hV, hp]; exact doc_f2 Z.out HB4.out HD4.out)
                    clear Z p0 p1 r0 r1
                    clear hV hp
                    have x1' : V.heap[w.heap.size]? = some (.cells #[.slice a n c, .string X] 78 (0, 0)) := (HF.out.low.block _ (lt_of_block BX.out)).trans BX.out
                    have y := HF.out.box
                    have p0 : V.cell? ⟨p, 0, none⟩ = some (.slice a4 n4 c4) := by simp [World.cell?, y]
                    have p1 : V.cell? ⟨p, 1, none⟩ = some (.string X4) := by simp [World.cell?, y]
                    have q0 : V.cell? ⟨w.heap.size, 0, none⟩ = some (.slice a n c) := by simp [World.cell?, x1']
                    have q1 : V.cell? ⟨w.heap.size, 1, none⟩ = some (.string X) := by simp [World.cell?, x1']
                    have r0 : V.frozen? ⟨w.heap.size, 0, none⟩ = false := by simp [World.frozen?, x1']
                    have r1 : V.frozen? ⟨w.heap.size, 1, none⟩ = false := by simp [World.frozen?, x1']
                    have XX1 := Lib.hid x1'
                    clear x1' y c0 c1 c0a c1a
                    go_wp2
                    go_roundw
                    case rel => exact ⟨i + 1, pre ++ [x], a4, c4, n4, X4, l4, X2, by simp, HX2.out, by simp, by omega, ses_next HX.out.1 HX.out.2 HiS.out HI.out.low HF.out.low HF.out.doc HDv4.out XX1.out _ rfl⟩
                    case measure => simp only [intOf]; omega
                  · go_simp
                    refine hK _ _ ?_
                    clear hK K
                    refine wpAny_ready (rs := [8]) (by kernel_rfl) (by simp) ?_
                    refine AllReady.cons rfl (fun K hK => ?_) (AllReady.nil)
                    go_simp
                    refine hK _ _ ?_
                    clear hK K
                    refine wpAny_ready (rs := [11]) (by kernel_rfl) (by simp) ?_
                    refine AllReady.cons rfl (fun K hK => ?_) (AllReady.nil)
                    go_simp
                    refine hK _ _ ?_
                    clear hK K
                    refine wpAny_done (by kernel_rfl) ?_ _
                    obtain ⟨V, hV⟩ : ∃ V, V = (w4.setCell ⟨wr.heap.size, 0, none⟩ (.slice a4 n4 c4)).setCell ⟨wr.heap.size, 1, none⟩ (.string X4) := ⟨_, rfl⟩
                    obtain ⟨p, hp⟩ : ∃ p, p = wr.heap.size := ⟨_, rfl⟩
                    rw [← hV, ← hp]
                    have HF : Hid (DocF w wr w4 (actP (stateA st0 pre) t).1 a4 c4 l4 p #[.slice a4 n4 c4, .string X4] V) := Lib.hid (by rw [hV, hp]; exact doc_f2 Z.out HB4.out HD4.out)
                    clear Z p0 p1 r0 r1
                    clear hV hp
                    have x1' : V.heap[w.heap.size]? = some (.cells #[.slice a n c, .string X] 78 (0, 0)) := (HF.out.low.block _ (lt_of_block BX.out)).trans BX.out
                    have y := HF.out.box
                    have p0 : V.cell? ⟨p, 0, none⟩ = some (.slice a4 n4 c4) := by simp [World.cell?, y]
                    have p1 : V.cell? ⟨p, 1, none⟩ = some (.string X4) := by simp [World.cell?, y]
                    have q0 : V.cell? ⟨w.heap.size, 0, none⟩ = some (.slice a n c) := by simp [World.cell?, x1']
                    have q1 : V.cell? ⟨w.heap.size, 1, none⟩ = some (.string X) := by simp [World.cell?, x1']
                    have r0 : V.frozen? ⟨w.heap.size, 0, none⟩ = false := by simp [World.frozen?, x1']
                    have r1 : V.frozen? ⟨w.heap.size, 1, none⟩ = false := by simp [World.frozen?, x1']
                    have XX1 := Lib.hid x1'
                    clear x1' y c0 c1 c0a c1a
                    go_wp2
                    go_roundw
                    case rel => exact ⟨i + 1, pre ++ [x], a4, c4, n4, X4, l4, X2, by simp, HX2.out, by simp, by omega, ses_next HX.out.1 HX.out.2 HiS.out HI.out.low HF.out.low HF.out.doc HDv4.out XX1.out _ rfl⟩
                    case measure => simp only [intOf]; omega
              · go_simp
                refine hK _ _ ?_
                clear hK K
                refine wpAny_ready (rs := [0]) (by kernel_rfl) (by simp) ?_
                refine AllReady.cons rfl (fun K hK => ?_) (AllReady.nil)
                go_simp
                refine hK _ _ ?_
                clear hK K
                refine wpAny_ready (rs := [5]) (by kernel_rfl) (by simp) ?_
                refine AllReady.cons rfl (fun K hK => ?_) (AllReady.nil)
                go_simp
                go_at_call 38
                refine (HAct.out _ ((below_drewN (Below.refl _ _) 1).alloc (by simp) _)).mono ?_
                rintro e w4 ⟨⟨a4, c4, l4, rfl, hD4⟩, hb4⟩
                obtain ⟨n4, X4, hdv4⟩ := doc_hv (actP (stateA st0 pre) t).1 a4 c4 l4
                rw [hdv4]
                have HD4 := Lib.hid hD4
                have HB4 : Hid (Below wr.heap.size wr w4) := Lib.hid (((below_drewN (Below.refl _ _) 1).alloc (by simp) _).trans (hb4.mono (by show wr.heap.size ≤ (wr.alloc _).heap.size; simp)))
                have HDv4 := Lib.hid hdv4
                have z : w4.heap[wr.heap.size]? = some (.cells #[.slice none 0 0, .string ⟨#[]⟩] 78 (0, 0)) := doc_box hb4
                have p0 : w4.cell? ⟨wr.heap.size, 0, none⟩ = some (.slice none 0 0) := by simp [World.cell?, z]
                have p1 : w4.cell? ⟨wr.heap.size, 1, none⟩ = some (.string ⟨#[]⟩) := by simp [World.cell?, z]
                have r0 : w4.frozen? ⟨wr.heap.size, 0, none⟩ = false := by simp [World.frozen?, z]
                have r1 : w4.frozen? ⟨wr.heap.size, 1, none⟩ = false := by simp [World.frozen?, z]
                have Z := Lib.hid z
                clear z
                clear hD4 hb4 hdv4
                go_wp2_with fail
                refine wpAny_take (i := 6) (v := ?_) rfl (by kernel_rfl) (by kernel_rfl) (by kernel_rfl) (fun _ _ _ h => h) (Or.inl ⟨by kernel_rfl, ?_⟩) ?_
                rotate_left
                · (intro w; go_simp; try with_reducible rfl)
                refine wpAny_take (i := 7) (v := ?_) rfl (by kernel_rfl) (by kernel_rfl) (by kernel_rfl) (fun _ _ _ h => h) (Or.inl ⟨by kernel_rfl, ?_⟩) ?_
                rotate_left
                · (intro w; go_simp; try with_reducible rfl)
                refine wpAny_ready (rs := [8, 10]) (by kernel_rfl) (by simp) ?_
                refine AllReady.cons rfl (fun K hK => ?_) (AllReady.cons rfl (fun K hK => ?_) (AllReady.nil))
                · go_simp
                  refine hK _ _ ?_
                  clear hK K
                  refine wpAny_ready (rs := [10]) (by kernel_rfl) (by simp) ?_
                  refine AllReady.cons rfl (fun K hK => ?_) (AllReady.nil)
                  go_simp
                  refine hK _ _ ?_
                  clear hK K
                  refine wpAny_ready (rs := [11]) (by kernel_rfl) (by simp) ?_
                  refine AllReady.cons rfl (fun K hK => ?_) (AllReady.nil)
                  go_simp
                  refine hK _ _ ?_
                  clear hK K
                  refine wpAny_done (by kernel_rfl) ?_ _
                  obtain ⟨V, hV⟩ : ∃ V, V = (w4.setCell ⟨wr.heap.size, 0, none⟩ (.slice a4 n4 c4)).setCell ⟨wr.heap.size, 1, none⟩ (.string X4) := ⟨_, rfl⟩
                  obtain ⟨p, hp⟩ : ∃ p, p = wr.heap.size := ⟨_, rfl⟩
                  rw [← hV, ← hp]
                  have HF : Hid (DocF w wr w4 (actP (stateA st0 pre) t).1 a4 c4 l4 p #[.slice a4 n4 c4, .string X4] V) := Lib.hid (by rw [hV, hp]; exact doc_f2 Z.out HB4.out HD4.out)
                  clear Z p0 p1 r0 r1
                  clear hV hp
                  have x1' : V.heap[w.heap.size]? = some (.cells #[.slice a n c, .string X] 78 (0, 0)) := (HF.out.low.block _ (lt_of_block BX.out)).trans BX.out
                  have y := HF.out.box
                  have p0 : V.cell? ⟨p, 0, none⟩ = some (.slice a4 n4 c4) := by simp [World.cell?, y]
                  have p1 : V.cell? ⟨p, 1, none⟩ = some (.string X4) := by simp [World.cell?, y]
                  have q0 : V.cell? ⟨w.heap.size, 0, none⟩ = some (.slice a n c) := by simp [World.cell?, x1']
                  have q1 : V.cell? ⟨w.heap.size, 1, none⟩ = some (.string X) := by simp [World.cell?, x1']
                  have r0 : V.frozen? ⟨w.heap.size, 0, none⟩ = false := by simp [World.frozen?, x1']
                  have r1 : V.frozen? ⟨w.heap.size, 1, none⟩ = false := by simp [World.frozen?, x1']
                  have XX1 := Lib.hid x1'
                  clear x1' y c0 c1 c0a c1a
                  go_wp2
                  go_roundw
                  case rel => exact ⟨i + 1, pre ++ [x], a4, c4, n4, X4, l4, X2, by simp, HX2.out, by simp, by omega, ses_next HX.out.1 HX.out.2 HiS.out HI.out.low HF.out.low HF.out.doc HDv4.out XX1.out _ rfl⟩
                  case measure => simp only [intOf]; omega
                · go_simp
                  refine hK _ _ ?_
                  clear hK K
                  refine wpAny_ready (rs := [8]) (by kernel_rfl) (by simp) ?_
                  refine AllReady.cons rfl (fun K hK => ?_) (AllReady.nil)
                  go_simp
                  refine hK _ _ ?_
                  clear hK K
                  refine wpAny_ready (rs := [11]) (by kernel_rfl) (by simp) ?_
                  refine AllReady.cons rfl (fun K hK => ?_) (AllReady.nil)
                  go_simp
                  refine hK _ _ ?_
                  clear hK K
                  refine wpAny_done (by kernel_rfl) ?_ _
                  obtain ⟨V, hV⟩ : ∃ V, V = (w4.setCell ⟨wr.heap.size, 0, none⟩ (.slice a4 n4 c4)).setCell ⟨wr.heap.size, 1, none⟩ (.string X4) := ⟨_, rfl⟩
                  obtain ⟨p, hp⟩ : ∃ p, p = wr.heap.size := ⟨_, rfl⟩
                  rw [← hV, ← hp]
                  have HF : Hid (DocF w wr w4 (actP (stateA st0 pre) t).1 a4 c4 l4 p #[.slice a4 n4 c4, .string X4] V) := Lib.hid (by rw [hV, hp]; exact doc_f2 Z.out HB4.out HD4.out)
                  clear Z p0 p1 r0 r1
                  clear hV hp
                  have x1' : V.heap[w.heap.size]? = some (.cells #[.slice a n c, .string X] 78 (0, 0)) := (HF.out.low.block _ (lt_of_block BX.out)).trans BX.out
                  have y := HF.out.box
                  have p0 : V.cell? ⟨p, 0, none⟩ = some (.slice a4 n4 c4) := by simp [World.cell?, y]
                  have p1 : V.cell? ⟨p, 1, none⟩ = some (.string X4) := by simp [World.cell?, y]
                  have q0 : V.cell? ⟨w.heap.size, 0, none⟩ = some (.slice a n c) := by simp [World.cell?, x1']
                  have q1 : V.cell? ⟨w.heap.size, 1, none⟩ = some (.string X) := by simp [World.cell?, x1']
                  have r0 : V.frozen? ⟨w.heap.size, 0, none⟩ = false := by simp [World.frozen?, x1']
                  have r1 : V.frozen? ⟨w.heap.size, 1, none⟩ = false := by simp [World.frozen?, x1']
                  have XX1 := Lib.hid x1'
                  clear x1' y c0 c1 c0a c1a
                  go_wp2
                  go_roundw
                  case rel => exact ⟨i + 1, pre ++ [x], a4, c4, n4, X4, l4, X2, by simp, HX2.out, by simp, by omega, ses_next HX.out.1 HX.out.2 HiS.out HI.out.low HF.out.low HF.out.doc HDv4.out XX1.out _ rfl⟩
                  case measure => simp only [intOf]; omega
            · have hb : ((((Y[i]'hlt2).toNat : Nat) : Int) == 10) = false := by
                rw [HGet.out i hlt2, beq_eq_false_iff_ne]
                intro e
                apply h10
                apply UInt8.toNat_inj.1
                have e32 : (10 : UInt8).toNat = 10 := rfl
                omega
              have hltI : (i : Int) < (Y.size : Int) := by omega
              have hno2 := Lib.hid (no_more s f i hfi (by rw [← HYs.out]; exact hlt2) h10 hno)
              clear h10 step hno
              go_wp2
              go_roundw
              case rel => exact ⟨i + 1, by simp, by omega, by omega, hno2.out, trivial⟩
              case measure => simp only [intOf]; omega
          · have hie : i = Y.size := by omega
            have hg1 : decide ((i : Int) < (Y.size : Int)) = false := decide_eq_false (by omega)
            have hg2 : decide (i < Y.size) = false := decide_eq_false (by omega)
            obtain ⟨x, hx1, hx2⟩ := (step (.inl hie)).out
            have HX : Hid (linesOf s = (pre ++ [x]) ++ linesOf (s.drop (i + 1)) ∧ Lib.trimSuffix x [10] = (s.take i).drop f) := Lib.hid ⟨hx1, hx2⟩
            obtain ⟨t, ht⟩ : ∃ t, t = (s.take i).drop f := ⟨_, rfl⟩
            have hHX := HX.out
            rw [← ht] at hHX
            have HX := Lib.hid hHX
            have HiS : Hid (i ≤ s.length) := Lib.hid (by rw [← HYs.out]; exact hiY)
            obtain ⟨st, hst⟩ : ∃ st, st = stateA st0 pre := ⟨_, rfl⟩
            have inv : Inv st pre.length := by rw [hst]; have h := Inv.all st0 0 Inv.zero pre; rwa [Nat.zero_add] at h
            have htl : t.length ≤ 3000 := by
              have := HiS.out
              have := HYs.out
              rw [ht, List.length_drop, List.length_take]; omega
            obtain ⟨Zb, hZb⟩ : ∃ Zb : ByteArray, Zb = ⟨(actP st t).2.toArray⟩ := ⟨_, rfl⟩
            have hfY : f ≤ Y.size := by omega
            have hline : ∀ W, Below wr.heap.size wr W → Calls Tryz.prog 38 #[.agg #[.slice a n c, .string X], .string (Y.extract f i)] W fun e w' => (∃ a c l, e = .returned (.tuple #[docV (actP st t).1 a c l, .string Zb]) ∧ DocS w' (actP st t).1 a c l) ∧ Below W.heap.size W w' := fun W b => by
              have h := ract_any st a c l W (by rw [hst]; exact HI.out.doc.below b) pre.length inv (by omega) t (by omega)
              rw [show docV st a c l = .agg #[.slice a n c, .string X] by rw [hst]; exact HI.out.hv, ht, HCut.out i f hfi hiY, ← ht] at h
              rw [hZb]; exact h
            have HAct := Lib.hid hline
            obtain ⟨-, hal⟩ := act_no inv (by omega) t
            have hZs : Zb.size ≤ 100 := by rw [hZb, mk_size]; omega
            obtain ⟨X1, e1, z1⟩ := mk_list (O.data.toList ++ Zb.data.toList)
            obtain ⟨X2, e2, z2⟩ := mk_list (X1.data.toList ++ [10])
            have s1 : X1.size = O.size + Zb.size := by rw [z1, List.length_append, ← Lib.size_eq, ← Lib.size_eq]
            have w1 := cat_run (P := Tryz.prog) O Zb X1 (by rw [e1]) (by omega)
            have w2 := cat_run (P := Tryz.prog) X1 ⟨#[10]⟩ X2 (by rw [e2]) (by show _ + 1 ≤ _; omega)
            have HX2 : Hid (X2 = ⟨(sessP st0 (pre ++ [x])).toArray⟩) := Lib.hid (by
              apply ByteArray.ext; apply Array.toList_inj.1
              rw [e2, e1, HO.out, hZb, sess_snoc]
              unfold lineA
              rw [HX.out.2, ← hst]; simp)
            have c0a : (wr.alloc (.cells #[.slice none 0 0, .string ⟨#[]⟩] 78)).drew.cell? ⟨w.heap.size, 0, none⟩ = some (.slice a n c) := by unfold World.cell?; rw [HX0a.out]; rfl
            have c1a : (wr.alloc (.cells #[.slice none 0 0, .string ⟨#[]⟩] 78)).drew.cell? ⟨w.heap.size, 1, none⟩ = some (.string X) := by unfold World.cell?; rw [HX0a.out]; rfl
            have hfI2 : (f : Int) ≤ (i : Int) := by omega
            subst hst
            clear hx1 hx2 hHX ht inv htl hline hal hZb hZs e1 e2 z1 z2 s1 hno step
            clear hie
            go_wp2_with fail
            refine wp_region_any (by kernel_rfl) ?_
            try (change wpAny _ _ _ _ _ _ _ (World.drew _))
            refine wpAny_take (i := 1) (v := ?_) rfl (by kernel_rfl) (by kernel_rfl) (by kernel_rfl) (fun _ _ _ h => h) (Or.inl ⟨by kernel_rfl, ?_⟩) ?_
            rotate_left
            · (intro w; go_simp; try with_reducible rfl)
            refine wpAny_take (i := 2) (v := ?_) rfl (by kernel_rfl) (by kernel_rfl) (by kernel_rfl) (fun _ _ _ h => h) (Or.inl ⟨by kernel_rfl, ?_⟩) ?_
            rotate_left
            · (intro w; go_simp; try with_reducible rfl)
            refine wpAny_take (i := 3) (v := ?_) rfl (by kernel_rfl) (by kernel_rfl) (by kernel_rfl) (fun _ _ _ h => h) (Or.inl ⟨by kernel_rfl, ?_⟩) ?_
            rotate_left
            · (intro w; go_simp; try with_reducible rfl)
            refine wpAny_take (i := 4) (v := ?_) rfl (by kernel_rfl) (by kernel_rfl) (by kernel_rfl) (fun _ _ _ h => h) (Or.inl ⟨by kernel_rfl, ?_⟩) ?_
            rotate_left
            · (intro w; go_simp; try with_reducible rfl)
            refine wpAny_ready (rs := [0, 9]) (by kernel_rfl) (by simp) ?_
            refine AllReady.cons rfl (fun K hK => ?_) (AllReady.cons rfl (fun K hK => ?_) (AllReady.nil))
            · go_simp
              refine hK _ _ ?_
              clear hK K
              refine wpAny_ready (rs := [5, 9]) (by kernel_rfl) (by simp) ?_
              refine AllReady.cons rfl (fun K hK => ?_) (AllReady.cons rfl (fun K hK => ?_) (AllReady.nil))
              ·
                go_simp
                go_at_call 38
                refine (HAct.out _ (below_drewN (Below.refl _ _) 1)).mono ?_
                rintro e w4 ⟨⟨a4, c4, l4, rfl, hD4⟩, hb4⟩
                obtain ⟨n4, X4, hdv4⟩ := doc_hv (actP (stateA st0 pre) t).1 a4 c4 l4
                rw [hdv4]
                have HD4 := Lib.hid hD4
                have HB4 : Hid (Below wr.heap.size wr w4) := Lib.hid ((below_drewN (Below.refl _ _) 1).trans hb4)
                have HDv4 := Lib.hid hdv4
                clear hD4 hb4 hdv4
                go_wp2_with fail
                refine wpAny_take (i := 6) (v := ?_) rfl (by kernel_rfl) (by kernel_rfl) (by kernel_rfl) (fun _ _ _ h => h) (Or.inl ⟨by kernel_rfl, ?_⟩) ?_
                rotate_left
                · (intro w; go_simp; try with_reducible rfl)
                refine wpAny_take (i := 7) (v := ?_) rfl (by kernel_rfl) (by kernel_rfl) (by kernel_rfl) (fun _ _ _ h => h) (Or.inl ⟨by kernel_rfl, ?_⟩) ?_
                rotate_left
                · (intro w; go_simp; try with_reducible rfl)
                refine wpAny_ready (rs := [8, 9]) (by kernel_rfl) (by simp) ?_
                refine AllReady.cons rfl (fun K hK => ?_) (AllReady.cons rfl (fun K hK => ?_) (AllReady.nil))
                · go_simp
                  refine hK _ _ ?_
                  clear hK K
                  refine wpAny_ready (rs := [9]) (by kernel_rfl) (by simp) ?_
                  refine AllReady.cons rfl (fun K hK => ?_) (AllReady.nil)
                  go_simp
                  refine hK _ _ ?_
                  clear hK K
                  refine wpAny_ready (rs := [10]) (by kernel_rfl) (by simp) ?_
                  refine AllReady.cons rfl (fun K hK => ?_) (AllReady.nil)
                  go_simp
                  refine hK _ _ ?_
                  clear hK K
                  refine wpAny_ready (rs := [11]) (by kernel_rfl) (by simp) ?_
                  refine AllReady.cons rfl (fun K hK => ?_) (AllReady.nil)
                  go_simp
                  refine hK _ _ ?_
                  clear hK K
                  refine wpAny_done (by kernel_rfl) ?_ _
                  obtain ⟨p, hp⟩ : ∃ p, p = w4.heap.size := ⟨_, rfl⟩
                  obtain ⟨V, hV⟩ : ∃ V, V = w4.alloc (.cells #[.slice a4 n4 c4, .string X4] 78) := ⟨_, rfl⟩
                  rw [← hV, ← hp]
                  have HF : Hid (DocF w wr w4 (actP (stateA st0 pre) t).1 a4 c4 l4 p #[.slice a4 n4 c4, .string X4] V) := Lib.hid (by rw [hV, hp]; exact doc_f1 HB4.out HD4.out)
                  clear hV hp
                  have x1' : V.heap[w.heap.size]? = some (.cells #[.slice a n c, .string X] 78 (0, 0)) := (HF.out.low.block _ (lt_of_block BX.out)).trans BX.out
                  have y := HF.out.box
                  have p0 : V.cell? ⟨p, 0, none⟩ = some (.slice a4 n4 c4) := by simp [World.cell?, y]
                  have p1 : V.cell? ⟨p, 1, none⟩ = some (.string X4) := by simp [World.cell?, y]
                  have q0 : V.cell? ⟨w.heap.size, 0, none⟩ = some (.slice a n c) := by simp [World.cell?, x1']
                  have q1 : V.cell? ⟨w.heap.size, 1, none⟩ = some (.string X) := by simp [World.cell?, x1']
                  have r0 : V.frozen? ⟨w.heap.size, 0, none⟩ = false := by simp [World.frozen?, x1']
                  have r1 : V.frozen? ⟨w.heap.size, 1, none⟩ = false := by simp [World.frozen?, x1']
                  have XX1 := Lib.hid x1'
                  clear x1' y c0 c1 c0a c1a
                  go_wp2
                  go_roundw
                  case rel => exact ⟨i + 1, pre ++ [x], a4, c4, n4, X4, l4, X2, by simp, HX2.out, by simp, by omega, ses_next HX.out.1 HX.out.2 HiS.out HI.out.low HF.out.low HF.out.doc HDv4.out XX1.out _ rfl⟩
                  case measure => simp only [intOf]; omega
                · go_simp
                  refine hK _ _ ?_
                  clear hK K
                  refine wpAny_ready (rs := [8, 10]) (by kernel_rfl) (by simp) ?_
                  refine AllReady.cons rfl (fun K hK => ?_) (AllReady.cons rfl (fun K hK => ?_) (AllReady.nil))
                  · go_simp
                    refine hK _ _ ?_
                    clear hK K
                    refine wpAny_ready (rs := [10]) (by kernel_rfl) (by simp) ?_
                    refine AllReady.cons rfl (fun K hK => ?_) (AllReady.nil)
                    go_simp
                    refine hK _ _ ?_
                    clear hK K
                    refine wpAny_ready (rs := [11]) (by kernel_rfl) (by simp) ?_
                    refine AllReady.cons rfl (fun K hK => ?_) (AllReady.nil)
                    go_simp
                    refine hK _ _ ?_
                    clear hK K
                    refine wpAny_done (by kernel_rfl) ?_ _
                    obtain ⟨p, hp⟩ : ∃ p, p = w4.heap.size := ⟨_, rfl⟩
                    obtain ⟨V, hV⟩ : ∃ V, V = w4.alloc (.cells #[.slice a4 n4 c4, .string X4] 78) := ⟨_, rfl⟩
                    rw [← hV, ← hp]
                    have HF : Hid (DocF w wr w4 (actP (stateA st0 pre) t).1 a4 c4 l4 p #[.slice a4 n4 c4, .string X4] V) := Lib.hid (by rw [hV, hp]; exact doc_f1 HB4.out HD4.out)
                    clear hV hp
                    have x1' : V.heap[w.heap.size]? = some (.cells #[.slice a n c, .string X] 78 (0, 0)) := (HF.out.low.block _ (lt_of_block BX.out)).trans BX.out
                    have y := HF.out.box
                    have p0 : V.cell? ⟨p, 0, none⟩ = some (.slice a4 n4 c4) := by simp [World.cell?, y]
                    have p1 : V.cell? ⟨p, 1, none⟩ = some (.string X4) := by simp [World.cell?, y]
                    have q0 : V.cell? ⟨w.heap.size, 0, none⟩ = some (.slice a n c) := by simp [World.cell?, x1']
                    have q1 : V.cell? ⟨w.heap.size, 1, none⟩ = some (.string X) := by simp [World.cell?, x1']
                    have r0 : V.frozen? ⟨w.heap.size, 0, none⟩ = false := by simp [World.frozen?, x1']
                    have r1 : V.frozen? ⟨w.heap.size, 1, none⟩ = false := by simp [World.frozen?, x1']
                    have XX1 := Lib.hid x1'
                    clear x1' y c0 c1 c0a c1a
                    go_wp2
                    go_roundw
                    case rel => exact ⟨i + 1, pre ++ [x], a4, c4, n4, X4, l4, X2, by simp, HX2.out, by simp, by omega, ses_next HX.out.1 HX.out.2 HiS.out HI.out.low HF.out.low HF.out.doc HDv4.out XX1.out _ rfl⟩
                    case measure => simp only [intOf]; omega
                  · go_simp
                    refine hK _ _ ?_
                    clear hK K
                    refine wpAny_ready (rs := [8]) (by kernel_rfl) (by simp) ?_
                    refine AllReady.cons rfl (fun K hK => ?_) (AllReady.nil)
                    go_simp
                    refine hK _ _ ?_
                    clear hK K
                    refine wpAny_ready (rs := [11]) (by kernel_rfl) (by simp) ?_
                    refine AllReady.cons rfl (fun K hK => ?_) (AllReady.nil)
                    go_simp
                    refine hK _ _ ?_
                    clear hK K
                    refine wpAny_done (by kernel_rfl) ?_ _
                    obtain ⟨p, hp⟩ : ∃ p, p = w4.heap.size := ⟨_, rfl⟩
                    obtain ⟨V, hV⟩ : ∃ V, V = w4.alloc (.cells #[.slice a4 n4 c4, .string X4] 78) := ⟨_, rfl⟩
                    rw [← hV, ← hp]
                    have HF : Hid (DocF w wr w4 (actP (stateA st0 pre) t).1 a4 c4 l4 p #[.slice a4 n4 c4, .string X4] V) := Lib.hid (by rw [hV, hp]; exact doc_f1 HB4.out HD4.out)
                    clear hV hp
                    have x1' : V.heap[w.heap.size]? = some (.cells #[.slice a n c, .string X] 78 (0, 0)) := (HF.out.low.block _ (lt_of_block BX.out)).trans BX.out
                    have y := HF.out.box
                    have p0 : V.cell? ⟨p, 0, none⟩ = some (.slice a4 n4 c4) := by simp [World.cell?, y]
                    have p1 : V.cell? ⟨p, 1, none⟩ = some (.string X4) := by simp [World.cell?, y]
                    have q0 : V.cell? ⟨w.heap.size, 0, none⟩ = some (.slice a n c) := by simp [World.cell?, x1']
                    have q1 : V.cell? ⟨w.heap.size, 1, none⟩ = some (.string X) := by simp [World.cell?, x1']
                    have r0 : V.frozen? ⟨w.heap.size, 0, none⟩ = false := by simp [World.frozen?, x1']
                    have r1 : V.frozen? ⟨w.heap.size, 1, none⟩ = false := by simp [World.frozen?, x1']
                    have XX1 := Lib.hid x1'
                    clear x1' y c0 c1 c0a c1a
                    go_wp2
                    go_roundw
                    case rel => exact ⟨i + 1, pre ++ [x], a4, c4, n4, X4, l4, X2, by simp, HX2.out, by simp, by omega, ses_next HX.out.1 HX.out.2 HiS.out HI.out.low HF.out.low HF.out.doc HDv4.out XX1.out _ rfl⟩
                    case measure => simp only [intOf]; omega
              · go_simp
                refine hK _ _ ?_
                clear hK K
                refine wpAny_ready (rs := [5]) (by kernel_rfl) (by simp) ?_
                refine AllReady.cons rfl (fun K hK => ?_) (AllReady.nil)
                go_simp
                go_at_call 38
                refine (HAct.out _ ((below_drewN (Below.refl _ _) 1).alloc (by simp) _)).mono ?_
                rintro e w4 ⟨⟨a4, c4, l4, rfl, hD4⟩, hb4⟩
                obtain ⟨n4, X4, hdv4⟩ := doc_hv (actP (stateA st0 pre) t).1 a4 c4 l4
                rw [hdv4]
                have HD4 := Lib.hid hD4
                have HB4 : Hid (Below wr.heap.size wr w4) := Lib.hid (((below_drewN (Below.refl _ _) 1).alloc (by simp) _).trans (hb4.mono (by show wr.heap.size ≤ (wr.alloc _).heap.size; simp)))
                have HDv4 := Lib.hid hdv4
                have z : w4.heap[wr.heap.size]? = some (.cells #[.slice none 0 0, .string ⟨#[]⟩] 78 (0, 0)) := doc_box hb4
                have p0 : w4.cell? ⟨wr.heap.size, 0, none⟩ = some (.slice none 0 0) := by simp [World.cell?, z]
                have p1 : w4.cell? ⟨wr.heap.size, 1, none⟩ = some (.string ⟨#[]⟩) := by simp [World.cell?, z]
                have r0 : w4.frozen? ⟨wr.heap.size, 0, none⟩ = false := by simp [World.frozen?, z]
                have r1 : w4.frozen? ⟨wr.heap.size, 1, none⟩ = false := by simp [World.frozen?, z]
                have Z := Lib.hid z
                clear z
                clear hD4 hb4 hdv4
                go_wp2_with fail
                refine wpAny_take (i := 6) (v := ?_) rfl (by kernel_rfl) (by kernel_rfl) (by kernel_rfl) (fun _ _ _ h => h) (Or.inl ⟨by kernel_rfl, ?_⟩) ?_
                rotate_left
                · (intro w; go_simp; try with_reducible rfl)
                refine wpAny_take (i := 7) (v := ?_) rfl (by kernel_rfl) (by kernel_rfl) (by kernel_rfl) (fun _ _ _ h => h) (Or.inl ⟨by kernel_rfl, ?_⟩) ?_
                rotate_left
                · (intro w; go_simp; try with_reducible rfl)
                refine wpAny_ready (rs := [8, 10]) (by kernel_rfl) (by simp) ?_
                refine AllReady.cons rfl (fun K hK => ?_) (AllReady.cons rfl (fun K hK => ?_) (AllReady.nil))
                · go_simp
                  refine hK _ _ ?_
                  clear hK K
                  refine wpAny_ready (rs := [10]) (by kernel_rfl) (by simp) ?_
                  refine AllReady.cons rfl (fun K hK => ?_) (AllReady.nil)
                  go_simp
                  refine hK _ _ ?_
                  clear hK K
                  refine wpAny_ready (rs := [11]) (by kernel_rfl) (by simp) ?_
                  refine AllReady.cons rfl (fun K hK => ?_) (AllReady.nil)
                  go_simp
                  refine hK _ _ ?_
                  clear hK K
                  refine wpAny_done (by kernel_rfl) ?_ _
                  obtain ⟨V, hV⟩ : ∃ V, V = (w4.setCell ⟨wr.heap.size, 0, none⟩ (.slice a4 n4 c4)).setCell ⟨wr.heap.size, 1, none⟩ (.string X4) := ⟨_, rfl⟩
                  obtain ⟨p, hp⟩ : ∃ p, p = wr.heap.size := ⟨_, rfl⟩
                  rw [← hV, ← hp]
                  have HF : Hid (DocF w wr w4 (actP (stateA st0 pre) t).1 a4 c4 l4 p #[.slice a4 n4 c4, .string X4] V) := Lib.hid (by rw [hV, hp]; exact doc_f2 Z.out HB4.out HD4.out)
                  clear Z p0 p1 r0 r1
                  clear hV hp
                  have x1' : V.heap[w.heap.size]? = some (.cells #[.slice a n c, .string X] 78 (0, 0)) := (HF.out.low.block _ (lt_of_block BX.out)).trans BX.out
                  have y := HF.out.box
                  have p0 : V.cell? ⟨p, 0, none⟩ = some (.slice a4 n4 c4) := by simp [World.cell?, y]
                  have p1 : V.cell? ⟨p, 1, none⟩ = some (.string X4) := by simp [World.cell?, y]
                  have q0 : V.cell? ⟨w.heap.size, 0, none⟩ = some (.slice a n c) := by simp [World.cell?, x1']
                  have q1 : V.cell? ⟨w.heap.size, 1, none⟩ = some (.string X) := by simp [World.cell?, x1']
                  have r0 : V.frozen? ⟨w.heap.size, 0, none⟩ = false := by simp [World.frozen?, x1']
                  have r1 : V.frozen? ⟨w.heap.size, 1, none⟩ = false := by simp [World.frozen?, x1']
                  have XX1 := Lib.hid x1'
                  clear x1' y c0 c1 c0a c1a
                  go_wp2
                  go_roundw
                  case rel => exact ⟨i + 1, pre ++ [x], a4, c4, n4, X4, l4, X2, by simp, HX2.out, by simp, by omega, ses_next HX.out.1 HX.out.2 HiS.out HI.out.low HF.out.low HF.out.doc HDv4.out XX1.out _ rfl⟩
                  case measure => simp only [intOf]; omega
                · go_simp
                  refine hK _ _ ?_
                  clear hK K
                  refine wpAny_ready (rs := [8]) (by kernel_rfl) (by simp) ?_
                  refine AllReady.cons rfl (fun K hK => ?_) (AllReady.nil)
                  go_simp
                  refine hK _ _ ?_
                  clear hK K
                  refine wpAny_ready (rs := [11]) (by kernel_rfl) (by simp) ?_
                  refine AllReady.cons rfl (fun K hK => ?_) (AllReady.nil)
                  go_simp
                  refine hK _ _ ?_
                  clear hK K
                  refine wpAny_done (by kernel_rfl) ?_ _
                  obtain ⟨V, hV⟩ : ∃ V, V = (w4.setCell ⟨wr.heap.size, 0, none⟩ (.slice a4 n4 c4)).setCell ⟨wr.heap.size, 1, none⟩ (.string X4) := ⟨_, rfl⟩
                  obtain ⟨p, hp⟩ : ∃ p, p = wr.heap.size := ⟨_, rfl⟩
                  rw [← hV, ← hp]
                  have HF : Hid (DocF w wr w4 (actP (stateA st0 pre) t).1 a4 c4 l4 p #[.slice a4 n4 c4, .string X4] V) := Lib.hid (by rw [hV, hp]; exact doc_f2 Z.out HB4.out HD4.out)
                  clear Z p0 p1 r0 r1
                  clear hV hp
                  have x1' : V.heap[w.heap.size]? = some (.cells #[.slice a n c, .string X] 78 (0, 0)) := (HF.out.low.block _ (lt_of_block BX.out)).trans BX.out
                  have y := HF.out.box
                  have p0 : V.cell? ⟨p, 0, none⟩ = some (.slice a4 n4 c4) := by simp [World.cell?, y]
                  have p1 : V.cell? ⟨p, 1, none⟩ = some (.string X4) := by simp [World.cell?, y]
                  have q0 : V.cell? ⟨w.heap.size, 0, none⟩ = some (.slice a n c) := by simp [World.cell?, x1']
                  have q1 : V.cell? ⟨w.heap.size, 1, none⟩ = some (.string X) := by simp [World.cell?, x1']
                  have r0 : V.frozen? ⟨w.heap.size, 0, none⟩ = false := by simp [World.frozen?, x1']
                  have r1 : V.frozen? ⟨w.heap.size, 1, none⟩ = false := by simp [World.frozen?, x1']
                  have XX1 := Lib.hid x1'
                  clear x1' y c0 c1 c0a c1a
                  go_wp2
                  go_roundw
                  case rel => exact ⟨i + 1, pre ++ [x], a4, c4, n4, X4, l4, X2, by simp, HX2.out, by simp, by omega, ses_next HX.out.1 HX.out.2 HiS.out HI.out.low HF.out.low HF.out.doc HDv4.out XX1.out _ rfl⟩
                  case measure => simp only [intOf]; omega
            · go_simp
              refine hK _ _ ?_
              clear hK K
              refine wpAny_ready (rs := [0]) (by kernel_rfl) (by simp) ?_
              refine AllReady.cons rfl (fun K hK => ?_) (AllReady.nil)
              go_simp
              refine hK _ _ ?_
              clear hK K
              refine wpAny_ready (rs := [5]) (by kernel_rfl) (by simp) ?_
              refine AllReady.cons rfl (fun K hK => ?_) (AllReady.nil)
              go_simp
              go_at_call 38
              refine (HAct.out _ ((below_drewN (Below.refl _ _) 1).alloc (by simp) _)).mono ?_
              rintro e w4 ⟨⟨a4, c4, l4, rfl, hD4⟩, hb4⟩
              obtain ⟨n4, X4, hdv4⟩ := doc_hv (actP (stateA st0 pre) t).1 a4 c4 l4
              rw [hdv4]
              have HD4 := Lib.hid hD4
              have HB4 : Hid (Below wr.heap.size wr w4) := Lib.hid (((below_drewN (Below.refl _ _) 1).alloc (by simp) _).trans (hb4.mono (by show wr.heap.size ≤ (wr.alloc _).heap.size; simp)))
              have HDv4 := Lib.hid hdv4
              have z : w4.heap[wr.heap.size]? = some (.cells #[.slice none 0 0, .string ⟨#[]⟩] 78 (0, 0)) := doc_box hb4
              have p0 : w4.cell? ⟨wr.heap.size, 0, none⟩ = some (.slice none 0 0) := by simp [World.cell?, z]
              have p1 : w4.cell? ⟨wr.heap.size, 1, none⟩ = some (.string ⟨#[]⟩) := by simp [World.cell?, z]
              have r0 : w4.frozen? ⟨wr.heap.size, 0, none⟩ = false := by simp [World.frozen?, z]
              have r1 : w4.frozen? ⟨wr.heap.size, 1, none⟩ = false := by simp [World.frozen?, z]
              have Z := Lib.hid z
              clear z
              clear hD4 hb4 hdv4
              go_wp2_with fail
              refine wpAny_take (i := 6) (v := ?_) rfl (by kernel_rfl) (by kernel_rfl) (by kernel_rfl) (fun _ _ _ h => h) (Or.inl ⟨by kernel_rfl, ?_⟩) ?_
              rotate_left
              · (intro w; go_simp; try with_reducible rfl)
              refine wpAny_take (i := 7) (v := ?_) rfl (by kernel_rfl) (by kernel_rfl) (by kernel_rfl) (fun _ _ _ h => h) (Or.inl ⟨by kernel_rfl, ?_⟩) ?_
              rotate_left
              · (intro w; go_simp; try with_reducible rfl)
              refine wpAny_ready (rs := [8, 10]) (by kernel_rfl) (by simp) ?_
              refine AllReady.cons rfl (fun K hK => ?_) (AllReady.cons rfl (fun K hK => ?_) (AllReady.nil))
              · go_simp
                refine hK _ _ ?_
                clear hK K
                refine wpAny_ready (rs := [10]) (by kernel_rfl) (by simp) ?_
                refine AllReady.cons rfl (fun K hK => ?_) (AllReady.nil)
                go_simp
                refine hK _ _ ?_
                clear hK K
                refine wpAny_ready (rs := [11]) (by kernel_rfl) (by simp) ?_
                refine AllReady.cons rfl (fun K hK => ?_) (AllReady.nil)
                go_simp
                refine hK _ _ ?_
                clear hK K
                refine wpAny_done (by kernel_rfl) ?_ _
                obtain ⟨V, hV⟩ : ∃ V, V = (w4.setCell ⟨wr.heap.size, 0, none⟩ (.slice a4 n4 c4)).setCell ⟨wr.heap.size, 1, none⟩ (.string X4) := ⟨_, rfl⟩
                obtain ⟨p, hp⟩ : ∃ p, p = wr.heap.size := ⟨_, rfl⟩
                rw [← hV, ← hp]
                have HF : Hid (DocF w wr w4 (actP (stateA st0 pre) t).1 a4 c4 l4 p #[.slice a4 n4 c4, .string X4] V) := Lib.hid (by rw [hV, hp]; exact doc_f2 Z.out HB4.out HD4.out)
                clear Z p0 p1 r0 r1
                clear hV hp
                have x1' : V.heap[w.heap.size]? = some (.cells #[.slice a n c, .string X] 78 (0, 0)) := (HF.out.low.block _ (lt_of_block BX.out)).trans BX.out
                have y := HF.out.box
                have p0 : V.cell? ⟨p, 0, none⟩ = some (.slice a4 n4 c4) := by simp [World.cell?, y]
                have p1 : V.cell? ⟨p, 1, none⟩ = some (.string X4) := by simp [World.cell?, y]
                have q0 : V.cell? ⟨w.heap.size, 0, none⟩ = some (.slice a n c) := by simp [World.cell?, x1']
                have q1 : V.cell? ⟨w.heap.size, 1, none⟩ = some (.string X) := by simp [World.cell?, x1']
                have r0 : V.frozen? ⟨w.heap.size, 0, none⟩ = false := by simp [World.frozen?, x1']
                have r1 : V.frozen? ⟨w.heap.size, 1, none⟩ = false := by simp [World.frozen?, x1']
                have XX1 := Lib.hid x1'
                clear x1' y c0 c1 c0a c1a
                go_wp2
                go_roundw
                case rel => exact ⟨i + 1, pre ++ [x], a4, c4, n4, X4, l4, X2, by simp, HX2.out, by simp, by omega, ses_next HX.out.1 HX.out.2 HiS.out HI.out.low HF.out.low HF.out.doc HDv4.out XX1.out _ rfl⟩
                case measure => simp only [intOf]; omega
              · go_simp
                refine hK _ _ ?_
                clear hK K
                refine wpAny_ready (rs := [8]) (by kernel_rfl) (by simp) ?_
                refine AllReady.cons rfl (fun K hK => ?_) (AllReady.nil)
                go_simp
                refine hK _ _ ?_
                clear hK K
                refine wpAny_ready (rs := [11]) (by kernel_rfl) (by simp) ?_
                refine AllReady.cons rfl (fun K hK => ?_) (AllReady.nil)
                go_simp
                refine hK _ _ ?_
                clear hK K
                refine wpAny_done (by kernel_rfl) ?_ _
                obtain ⟨V, hV⟩ : ∃ V, V = (w4.setCell ⟨wr.heap.size, 0, none⟩ (.slice a4 n4 c4)).setCell ⟨wr.heap.size, 1, none⟩ (.string X4) := ⟨_, rfl⟩
                obtain ⟨p, hp⟩ : ∃ p, p = wr.heap.size := ⟨_, rfl⟩
                rw [← hV, ← hp]
                have HF : Hid (DocF w wr w4 (actP (stateA st0 pre) t).1 a4 c4 l4 p #[.slice a4 n4 c4, .string X4] V) := Lib.hid (by rw [hV, hp]; exact doc_f2 Z.out HB4.out HD4.out)
                clear Z p0 p1 r0 r1
                clear hV hp
                have x1' : V.heap[w.heap.size]? = some (.cells #[.slice a n c, .string X] 78 (0, 0)) := (HF.out.low.block _ (lt_of_block BX.out)).trans BX.out
                have y := HF.out.box
                have p0 : V.cell? ⟨p, 0, none⟩ = some (.slice a4 n4 c4) := by simp [World.cell?, y]
                have p1 : V.cell? ⟨p, 1, none⟩ = some (.string X4) := by simp [World.cell?, y]
                have q0 : V.cell? ⟨w.heap.size, 0, none⟩ = some (.slice a n c) := by simp [World.cell?, x1']
                have q1 : V.cell? ⟨w.heap.size, 1, none⟩ = some (.string X) := by simp [World.cell?, x1']
                have r0 : V.frozen? ⟨w.heap.size, 0, none⟩ = false := by simp [World.frozen?, x1']
                have r1 : V.frozen? ⟨w.heap.size, 1, none⟩ = false := by simp [World.frozen?, x1']
                have XX1 := Lib.hid x1'
                clear x1' y c0 c1 c0a c1a
                go_wp2
                go_roundw
                case rel => exact ⟨i + 1, pre ++ [x], a4, c4, n4, X4, l4, X2, by simp, HX2.out, by simp, by omega, ses_next HX.out.1 HX.out.2 HiS.out HI.out.low HF.out.low HF.out.doc HDv4.out XX1.out _ rfl⟩
                case measure => simp only [intOf]; omega
          --ROUNDEND
      · have hge1 : decide ((f : Int) < (Y.size : Int)) = false := decide_eq_false (by omega)
        have hge2 : decide (f < Y.size) = false := decide_eq_false (by omega)
        have hfin : Hid (O = ⟨(runP s).toArray⟩) := Lib.hid (by
          have h := hI.cut
          rw [List.drop_eq_nil_of_le (by rw [← HYs.out]; exact hge), linesOf_nil, List.append_nil] at h
          rw [hO, hr.out, h])
        clear hI hO x0
        go_wp2
        go_ret
        exact ⟨by rw [← hfin.out]; rfl, HI.out.low⟩
end Go.Proofs.YtfejlkgddnamoaaGreatDoor
