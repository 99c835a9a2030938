/- WALK: the law BookTorn. -/
import Derived.Test.YtalnepcbaegaeaaDoorBkPair
import Derived.Test.YtalnepcbaegaeaaDoorBkFact
import Derived.Test.YtalnepcbaegaeaaDoorTornPlain
import Derived.WalkSmall
set_option linter.unusedVariables false
set_option linter.unusedSimpArgs false
namespace Go.Proofs.YtalnepcbaegaeaaDoor
open Go Go.RowKit SimPlain HeapPlain BookPlain NumPlain SpPlain LinesPlain

theorem wf_range {n : Int} (h : (Lit.int .i64 n).wf = true) : -9223372036854775808 ≤ n ∧ n ≤ 9223372036854775807 := by
  simp [Lit.wf, IntKind.min, IntKind.max, IntKind.signed, IntKind.bits] at h
  omega
set_option maxRecDepth 100000 in
set_option maxRecDepth 100000 in
set_option maxHeartbeats 4000000 in
theorem BookTorn_walk (l : List Ev) (a0 : Option Addr) (cap0 : Nat) (k : Int) (w : World) (hx : EvA w a0 l) (hl : l.length ≤ 9223372036854775807) (hk0 : -9223372036854775808 ≤ k) (hk1 : k ≤ 9223372036854775807) (env : Env w) :
    Calls Tryd.prog 5 #[.slice a0 l.length cap0, .int .i64 k] w fun e w' => e = .returned (.bool true) ∧ Below w.heap.size w w' := by
  have HEnv := Lib.hid env
  have HX := Lib.hid hx
  have HFact := Lib.hid (bookFact_any w env.tab)
  obtain ⟨N, hN⟩ : ∃ N, N = l.length := ⟨_, rfl⟩
  have HTold : Hid (∀ W, Below w.heap.size w W → Calls Tryd.prog 19 #[.slice a0 N cap0] W fun e w' => ∃ S F i, e = .returned (.pointer (some ⟨S, 0, none⟩)) ∧ i ≤ 140 ∧ (i = l.length ∨ i = 140) ∧ BookS w' W.heap.size S F (toldB (l.take i)) i ∧ Below W.heap.size W w') := Lib.hid fun W b => by
    rw [hN]; exact told_any l a0 cap0 W (hx.below b) hl (env.to b).tab
  rw [← hN] at hl ⊢
  have HN := Lib.hid hN
  clear hx hN env
  go_enter Tryd.func5, Tryd.ntmps5
  go_wp2_with fail
  refine HFact.out.mono ?_
  rintro e w1 ⟨rfl, hb1⟩
  have HB1 := Lib.hid hb1
  clear hb1
  go_wp2_with fail
  refine (HTold.out w1 HB1.out).mono ?_
  rintro e w2 ⟨S, F, ii, rfl, hi, hii, hS, hb2⟩
  have hb02 : Below w.heap.size w w2 := HB1.out.trans (hb2.mono HB1.out.size)
  have HTorn := Lib.hid (torn_open (l.take ii))
  obtain ⟨T, hT⟩ : ∃ T, T = (toldB (l.take ii)).T := ⟨_, rfl⟩
  obtain ⟨Y, hY⟩ : ∃ Y : ByteArray, Y = ⟨T.toArray⟩ := ⟨_, rfl⟩
  have hYs : Y.size = T.length := by rw [hY]; simp [ByteArray.size]
  have hTx : T.length ≤ 100000 := by rw [hT]; exact told_txt hS (by omega)
  have HText : Hid (Calls Tryd.prog 14 #[.pointer (some ⟨S, 0, none⟩)] w2 fun e w' => e = .returned (.string Y) ∧ Below w.heap.size w w') := Lib.hid (by
    rw [hY, hT]
    refine (BText_any S w1.heap.size F _ _ _ w2 hS.book).mono ?_
    rintro e w' ⟨rfl, -, o⟩
    exact ⟨rfl, hb02.trans (o.below hb02.size (fun k c => by have := (hS.book.fb k c).1; have := HB1.out.size; omega))⟩)
  rw [← hT] at HTorn
  have HY := Lib.hid hY
  have HYs := Lib.hid hYs
  have HTx := Lib.hid hTx
  have HT := Lib.hid hT
  have Hii := Lib.hid hii
  have Hi := Lib.hid hi
  clear hS hb2 hb02 hT hY hTx hii hi hYs
  go_wp2_with fail
  refine HText.out.mono ?_
  rintro e w3 ⟨rfl, hb3⟩
  have HB3 := Lib.hid hb3
  clear hb3
  by_cases hneg : k < 0
  · go_wp2
    go_ret
    exact ⟨rfl, HB3.out⟩
  · have hk0' : (0 : Int) ≤ k := by omega
    have hnn : decide (k < 0) = false := decide_eq_false hneg
    clear hneg
    by_cases hbig : (Y.size : Int) < k
    · go_wp2
      go_ret
      exact ⟨rfl, HB3.out⟩
    · obtain ⟨kn, rfl⟩ : ∃ kn : Nat, k = kn := ⟨k.toNat, by omega⟩
      have hkY : (kn : Int) ≤ (Y.size : Int) := by omega
      have hkN : kn ≤ Y.size := by omega
      have hns : Y.size ≤ 100000 := by rw [HYs.out]; exact HTx.out
      clear hbig hk0 hk1 hnn
      go_wp2
      go_loopw [8, 9] (fun lv iv wr => ∃ j : Nat, iv = .int .i64 j ∧ j ≤ kn ∧ lv = .int .i64 ((T.take j).count 10 : Nat) ∧ wr = w3) (fun _ iv _ => kn - (intOf iv).toNat)
      case atStart => exact ⟨0, rfl, by omega, by simp, rfl⟩
      case round =>
        obtain ⟨j, rfl, hjk, rfl, rfl⟩ := hrel
        obtain ⟨c, hc⟩ : ∃ c, c = (T.take j).count 10 := ⟨_, rfl⟩
        have hcj : c ≤ 100000 := by
          rw [hc]
          have := List.count_le_length (a := (10 : UInt8)) (l := T.take j)
          rw [List.length_take] at this
          have := HTx.out; omega
        rw [← hc]
        have HC := Lib.hid hc
        clear hc
        rcases Nat.lt_or_ge j kn with hlt | hge
        · have hjI : (j : Int) < (kn : Int) := by omega
          have hjY : (j : Int) < (Y.size : Int) := by omega
          have hjN : j < Y.size := by omega
          have hget : Hid (Y[j]'hjN = T.getD j 0) := Lib.hid (by
            have h := HY.out
            subst h
            rw [List.getD_eq_getElem?_getD, List.getElem?_eq_getElem (by have := HYs.out; omega)]
            rfl)
          have hstep := count_step T j (by have := HYs.out; omega)
          rw [← HC.out] at hstep
          rcases Bool.eq_false_or_eq_true ((((Y[j]'hjN).toNat : Nat) : Int) == 10) with hb | hb
          · have e10 : T.getD j 0 = 10 := by
              rw [← hget.out]
              apply UInt8.toNat_inj.1
              have := eq_of_beq hb
              have h10 : (10 : UInt8).toNat = 10 := rfl
              omega
            rw [if_pos e10] at hstep
            have HStep := Lib.hid hstep
            clear hstep e10
            go_wp2
            go_roundw
            case rel => exact ⟨j + 1, by go_num, by omega, by rw [HStep.out]; go_num, trivial⟩
            case measure => simp only [intOf]; omega
          · have e10 : ¬ T.getD j 0 = 10 := fun h => by
              rw [← hget.out] at h
              rw [h] at hb
              simp at hb
            rw [if_neg e10] at hstep
            have HStep : Hid (List.count 10 (List.take (j + 1) T) = c) := Lib.hid hstep
            clear hstep e10
            go_wp2
            go_roundw
            case rel => exact ⟨j + 1, by go_num, by omega, by rw [HStep.out], trivial⟩
            case measure => simp only [intOf]; omega
        · obtain rfl : j = kn := by omega
          have hjd : decide ((j : Int) < (j : Int)) = false := by simp
          have hjd2 : decide (j < j) = false := by simp
          obtain ⟨m, hm1, hm2, hm3, hm4⟩ := HTorn.out j (by have := HYs.out; omega)
          obtain rfl : c = m := by rw [HC.out, hm2]
          have hTt : (⟨(T.take j).toArray⟩ : ByteArray) = Y.extract 0 j := by
            apply ByteArray.ext; apply Array.toList_inj.1
            rw [Lib.extract_data, HY.out]; simp
          have hll : (l.take ii).length ≤ 140 := by rw [List.length_take]; have := Hi.out; omega
          have HOpen := Lib.hid (Open_any (T.take j) wr (HEnv.out.to HB3.out) (by rw [List.length_take]; have := HTx.out; omega) (by omega))
          rw [hTt] at HOpen
          have hio : (linesOf (T.take j)).length ≤ 500 := by omega
          have HIo := Lib.hid hio
          have HM3 := Lib.hid hm3
          have HM1 := Lib.hid hm1
          clear hm1 hm2 hm3 hm4 hTt hll hio
          go_wp2_with fail
          refine HOpen.out.mono ?_
          rintro e w4 ⟨hb4, hres⟩
          rw [HM3.out] at hres
          rcases hres with ⟨-, So, Fo, io, Bo, hio, hBo, hBo2, rfl, hSo⟩ | ⟨hne, -⟩
          · obtain ⟨sto, hsto⟩ : ∃ s, s = runC st0 ((logOf st0 (l.take ii)).take c) := ⟨_, rfl⟩
            rw [← hsto] at hSo
            have HSto := Lib.hid hsto
            have HB4 : Hid (Below w.heap.size w w4) := Lib.hid (HB3.out.trans (hb4.mono HB3.out.size))
            have HSo := Lib.hid (hSo.upto (show io ≤ 500 by have := HIo.out; omega))
            have HBo : Hid (w.heap.size ≤ Bo ∧ Bo ≤ w4.heap.size) := Lib.hid ⟨by have := HB3.out.size; omega, hBo2⟩
            have HNew := Lib.hid (BNew_any w4)
            clear hSo hsto hb4 hBo hBo2 hio
            go_wp2_with fail
            refine HNew.out.mono ?_
            rintro e w5 ⟨Sc, rfl, hqc, hb5⟩
            have hP : Pair w w5 So sto 500 Sc (toldB (l.take 0)) 0 := by
              have h1 := HBo.out
              have h5 := hb5.size
              have h4 := HB4.out.size
              have o5 := only_of_below hb5 (fun _ => False)
              refine ⟨⟨Bo, Fo, w4.heap.size, _, HSo.out.only o5 (fun _ _ c => c), ⟨hqc, by show (0 : Nat) ≤ 60; omega, by show (0 : Int) ≤ 0; omega, by show (0 : Int) ≤ 0; omega, by show (0 : Nat) ≤ _; omega⟩, fun k c d => ?_, h1.1, by omega, h4, h5⟩, HB4.out.trans (hb5.mono h4)⟩
              have := (HSo.out.book.fb k c).2
              omega
            have HP := Lib.hid hP
            clear hP hqc hb5
            go_wp2
            go_loopw [14, 15] (fun hv iv wr => ∃ jj : Nat, iv = .int .i64 jj ∧ jj ≤ ii ∧ hv = .int .i64 ((logOf st0 (l.take jj)).length : Nat) ∧ (logOf st0 (l.take jj)).length ≤ c ∧ Pair w wr So sto 500 Sc (toldB (l.take jj)) jj) (fun _ iv _ => 140 - (intOf iv).toNat)
            case atStart => exact ⟨0, rfl, by omega, rfl, by simp [logOf], HP.out⟩
            case round =>
              obtain ⟨jj, rfl, hjj, rfl, hhc, hP⟩ := hrel
              have hlj : (logOf st0 (l.take jj)).length ≤ 140 := by
                have := logOf_len (l.take jj) st0
                rw [List.length_take] at this
                have := Hi.out; omega
              obtain ⟨h, hh⟩ : ∃ h, h = (logOf st0 (l.take jj)).length := ⟨_, rfl⟩
              rw [← hh] at hhc hlj ⊢
              have HH := Lib.hid hh
              have HP := Lib.hid hP
              have hii140 : jj ≤ 140 := by have := Hi.out; omega
              clear hh hP
              by_cases hgo : jj < N ∧ jj < 140 ∧ h < c
              · obtain ⟨g1, g2, g3⟩ := hgo
                have g1I : (jj : Int) < (N : Int) := by omega
                have g2I : (jj : Int) < 140 := by omega
                have g3I : (h : Int) < (c : Int) := by omega
                have hlt : jj < l.length := by have := HN.out; omega
                have hjii : jj < ii := by
                  rcases Hii.out with h | h
                  · have := HN.out; omega
                  · omega
                obtain ⟨b, off, rfl, hbl, hcs⟩ := HX.out.open (by omega)
                obtain ⟨c0, c1⟩ := hcs jj hlt
                have low := HP.out.low
                replace c0 := (low.cell (p := ⟨b, off + jj * 2, none⟩) hbl).trans c0
                replace c1 := (low.cell (p := ⟨b, off + jj * 2 + 1, none⟩) hbl).trans c1
                have hbl2 : b < wr.heap.size := by have := low.size; omega
                obtain ⟨key, hkey⟩ : ∃ k, k = (l.getD jj e0).t := ⟨_, rfl⟩
                obtain ⟨id, hid⟩ : ∃ k, k = (l.getD jj e0).id := ⟨_, rfl⟩
                rw [← hkey] at c0
                rw [← hid] at c1
                have hev := step_ev (toldB (l.take jj)) (l.getD jj e0)
                rw [← hkey, ← hid] at hev
                have hsn := toldB_snoc l jj hlt
                rw [hev.1] at hsn
                have hls := log_step l hlt
                rw [hev.2, ← HH.out] at hls
                have hle := log_le l (show jj + 1 ≤ ii from hjii)
                have HSn := Lib.hid hsn
                have HLs := Lib.hid hls
                clear hcs low hkey hid hev hsn hls hle
                by_cases h7 : id = 7
                · subst h7
                  have hsp := step_pop (toldB (l.take jj)) key
                  obtain ⟨code, hcode⟩ : ∃ c, c = (popS (toldB (l.take jj))).2 := ⟨_, rfl⟩
                  rw [← hcode] at hsp
                  have HPop : Hid (Calls Tryd.prog 9 #[.pointer (some ⟨Sc, 0, none⟩)] wr fun e w' => ∃ k d, e = .returned (.tuple #[.agg #[.int .i64 k, .int .i64 d], errV 64 code]) ∧ Pair w w' So sto 500 Sc (toldB (l.take (jj + 1))) (jj + 1)) := Lib.hid (by
                    rw [hcode, HSn.out, hsp.1]
                    exact (HP.out.swap.pop1 HEnv.out (by omega)).mono fun e w' ⟨k, d, h1, h2⟩ => ⟨k, d, h1, h2.swap⟩)
                  have HSp := Lib.hid hsp.2
                  clear hsp hcode
                  go_wp2_with fail
                  refine HPop.out.mono ?_
                  rintro e w7 ⟨k, d, rfl, hP7⟩
                  have HP7 : Hid (Pair w (w7.alloc (.cells #[.int .i64 k, .int .i64 d] 28)) So sto 500 Sc (toldB (l.take (jj + 1))) (jj + 1)) := Lib.hid (hP7.below ((Below.refl _ _).alloc (Nat.le_refl _) _))
                  clear hP7
                  by_cases hc0 : code = 0
                  · have hlen : Hid ((logOf st0 (l.take (jj + 1))).length = h + 1) := Lib.hid (by rw [HLs.out, if_pos (HSp.out.1 hc0)])
                    rw [hc0, errV_ok]
                    go_wp2
                    go_roundw
                    case rel => exact ⟨jj + 1, by go_num, by omega, by rw [hlen.out]; go_num, by rw [hlen.out]; omega, HP7.out⟩
                    case measure => simp only [intOf]; omega
                  · have hlen : Hid ((logOf st0 (l.take (jj + 1))).length = h) := Lib.hid (by rw [HLs.out, if_neg (fun c => hc0 (HSp.out.2 c))]; rfl)
                    rw [errV_bad hc0]
                    go_wp2
                    go_roundw
                    case rel => exact ⟨jj + 1, by go_num, by omega, by rw [hlen.out], by rw [hlen.out]; omega, HP7.out⟩
                    case measure => simp only [intOf]; omega
                · have h7B : (id == 7) = false := by rw [beq_eq_false_iff_ne]; exact h7
                  have hsp := step_push (toldB (l.take jj)) key id h7
                  obtain ⟨code, hcode⟩ : ∃ c, c = pcode (toldB (l.take jj)) ⟨key, id, 0⟩ := ⟨_, rfl⟩
                  rw [← hcode] at hsp
                  have HPush : Hid (Calls Tryd.prog 12 #[.pointer (some ⟨Sc, 0, none⟩), .agg #[.int .i64 key, .int .i64 id]] wr fun e w' => e = .returned (errV 64 code) ∧ Pair w w' So sto 500 Sc (toldB (l.take (jj + 1))) (jj + 1)) := Lib.hid (by
                    rw [hcode, HSn.out, hsp.1]
                    exact (HP.out.swap.push1 HEnv.out (by omega) key id).mono fun e w' ⟨h1, h2⟩ => ⟨h1, h2.swap⟩)
                  have HSp := Lib.hid hsp.2
                  clear hsp hcode h7
                  go_wp2_with fail
                  refine HPush.out.mono ?_
                  rintro e w7 ⟨rfl, hP7⟩
                  have HP7 := Lib.hid hP7
                  clear hP7
                  by_cases hc0 : code = 0
                  · have hlen : Hid ((logOf st0 (l.take (jj + 1))).length = h + 1) := Lib.hid (by rw [HLs.out, if_pos (HSp.out.1 hc0)])
                    rw [hc0, errV_ok]
                    go_wp2
                    go_roundw
                    case rel => exact ⟨jj + 1, by go_num, by omega, by rw [hlen.out]; go_num, by rw [hlen.out]; omega, HP7.out⟩
                    case measure => simp only [intOf]; omega
                  · have hlen : Hid ((logOf st0 (l.take (jj + 1))).length = h) := Lib.hid (by rw [HLs.out, if_neg (fun c => hc0 (HSp.out.2 c))]; rfl)
                    rw [errV_bad hc0]
                    go_wp2
                    go_roundw
                    case rel => exact ⟨jj + 1, by go_num, by omega, by rw [hlen.out], by rw [hlen.out]; omega, HP7.out⟩
                    case measure => simp only [intOf]; omega
              · have hhc2 : h = c := by
                  rcases Nat.lt_or_ge h c with g3 | g3
                  · exfalso
                    have hend : N ≤ jj ∨ 140 ≤ jj := by omega
                    have hsame : l.take jj = l.take ii := by
                      have hN2 := HN.out
                      have hi2 := Hi.out
                      rcases hend with g | g
                      · rw [List.take_of_length_le (by omega), List.take_of_length_le (by omega)]
                      · rw [show jj = ii by omega]
                    have h1 := HM1.out
                    have h2 := HH.out
                    rw [hsame] at h2
                    omega
                  · omega
                subst hhc2
                have hst : toldB (l.take jj) = sto := by rw [HSto.out]; exact log_eq l hjj HH.out.symm
                have hP2 := HP.out
                rw [hst] at hP2
                have h60 : sto.q.length ≤ 60 := HSo.out.many
                obtain ⟨Y', hY'⟩ : ∃ Y : ByteArray, Y = ⟨sto.T.toArray⟩ := ⟨_, rfl⟩
                obtain ⟨n', hn'⟩ : ∃ n, n = sto.q.length := ⟨_, rfl⟩
                have K1 : Hid (∀ W, Pair w W So sto 500 Sc sto jj → Calls Tryd.prog 14 #[.pointer (some ⟨So, 0, none⟩)] W fun e w' => e = .returned (.string Y') ∧ Pair w w' So sto 500 Sc sto jj) := Lib.hid fun W h => by rw [hY']; exact h.text1
                have K2 : Hid (∀ W, Pair w W So sto 500 Sc sto jj → Calls Tryd.prog 14 #[.pointer (some ⟨Sc, 0, none⟩)] W fun e w' => e = .returned (.string Y') ∧ Pair w w' So sto 500 Sc sto jj) := Lib.hid fun W h => by
                  rw [hY']; exact h.swap.text1.mono fun e w' h => ⟨h.1, h.2.swap⟩
                have M1 : Hid (∀ W, Pair w W So sto 500 Sc sto jj → Calls Tryd.prog 13 #[.pointer (some ⟨So, 0, none⟩)] W fun e w' => e = .returned (.int .i64 n') ∧ W = w') := Lib.hid fun W h => by rw [hn']; exact h.many1
                have M2 : Hid (∀ W, Pair w W So sto 500 Sc sto jj → Calls Tryd.prog 13 #[.pointer (some ⟨Sc, 0, none⟩)] W fun e w' => e = .returned (.int .i64 n') ∧ W = w') := Lib.hid fun W h => by rw [hn']; exact h.swap.many1
                have K3 : Hid (∀ W, Pair w W So sto 500 Sc sto jj → Calls Tryd.prog 18 #[.pointer (some ⟨So, 0, none⟩)] W fun e w' => ∃ a c, e = .returned (.slice a n' c) ∧ PairD w w' Sc sto jj a sto.q) := Lib.hid fun W h => by
                  rw [hn']; exact h.drain1 HEnv.out (by omega)
                have K4 : Hid (∀ W a, PairD w W Sc sto jj a sto.q → Calls Tryd.prog 18 #[.pointer (some ⟨Sc, 0, none⟩)] W fun e w' => ∃ a' c', e = .returned (.slice a' n' c') ∧ EvA w' a sto.q ∧ EvA w' a' sto.q ∧ Below w.heap.size w w') := Lib.hid fun W a h => by
                  rw [hn']; exact h.drain2 HEnv.out (by omega)
                have K5 : Hid (∀ W a a' c c', EvA W a sto.q → EvA W a' sto.q → Calls Tryd.prog 17 #[.slice a n' c, .slice a' n' c'] W fun e w' => e = .returned (.bool true) ∧ ∃ k, w' = W.drewN k) := Lib.hid fun W a a' c c' h h' => by
                  rw [hn']; exact pair_items sto.q a a' c c' W (by omega) h h'
                have HP2 := Lib.hid hP2
                have hcc : decide ((h : Int) < (h : Int)) = false := by simp
                have hcc2 : decide (h < h) = false := by simp
                clear h60 hY' hn' hP2 hst hgo HP
                have hthree : (¬ jj < N) ∨ (jj < N ∧ ¬ jj < 140) ∨ (jj < N ∧ jj < 140) := by omega
                rcases hthree with g | ⟨g, g'⟩ | ⟨g, g'⟩
                · have e1 : decide ((jj : Int) < (N : Int)) = false := decide_eq_false (by omega)
                  have e2 : decide (jj < N) = false := decide_eq_false g
                  clear g
                  go_wp2_with fail
                  refine (K1.out _ HP2.out).mono ?_
                  rintro e w9 ⟨rfl, hP9⟩
                  have HP9 := Lib.hid hP9
                  clear hP9
                  go_wp2_with fail
                  refine (K2.out _ HP9.out).mono ?_
                  rintro e w10 ⟨rfl, hP10⟩
                  have HP10 := Lib.hid hP10
                  clear hP10
                  go_wp2_with fail
                  refine (M1.out _ HP10.out).mono ?_
                  rintro e w11 ⟨rfl, rfl⟩
                  go_wp2_with fail
                  refine (M2.out _ HP10.out).mono ?_
                  rintro e w11 ⟨rfl, rfl⟩
                  go_wp2_with fail
                  refine (K3.out _ HP10.out).mono ?_
                  rintro e w11 ⟨a1, c1, rfl, hP11⟩
                  have HP11 := Lib.hid hP11
                  clear hP11
                  go_wp2_with fail
                  refine (K4.out _ _ HP11.out).mono ?_
                  rintro e w12 ⟨a2, c2, rfl, hA1, hA2, hB12⟩
                  have HA1 := Lib.hid hA1
                  have HA2 := Lib.hid hA2
                  have HB12 := Lib.hid hB12
                  clear hA1 hA2 hB12
                  go_wp2_with fail
                  refine (K5.out _ _ _ _ _ HA1.out HA2.out).mono ?_
                  rintro e w13 ⟨rfl, kk, rfl⟩
                  go_wp2_with fail
                  go_ret
                  exact ⟨rfl, below_drewN HB12.out kk⟩
                · have e1 : (jj : Int) < (N : Int) := by omega
                  have e2 : decide ((jj : Int) < 140) = false := decide_eq_false (by omega)
                  have e3 : decide (jj < 140) = false := decide_eq_false g'
                  clear g'
                  go_wp2_with fail
                  refine (K1.out _ HP2.out).mono ?_
                  rintro e w9 ⟨rfl, hP9⟩
                  have HP9 := Lib.hid hP9
                  clear hP9
                  go_wp2_with fail
                  refine (K2.out _ HP9.out).mono ?_
                  rintro e w10 ⟨rfl, hP10⟩
                  have HP10 := Lib.hid hP10
                  clear hP10
                  go_wp2_with fail
                  refine (M1.out _ HP10.out).mono ?_
                  rintro e w11 ⟨rfl, rfl⟩
                  go_wp2_with fail
                  refine (M2.out _ HP10.out).mono ?_
                  rintro e w11 ⟨rfl, rfl⟩
                  go_wp2_with fail
                  refine (K3.out _ HP10.out).mono ?_
                  rintro e w11 ⟨a1, c1, rfl, hP11⟩
                  have HP11 := Lib.hid hP11
                  clear hP11
                  go_wp2_with fail
                  refine (K4.out _ _ HP11.out).mono ?_
                  rintro e w12 ⟨a2, c2, rfl, hA1, hA2, hB12⟩
                  have HA1 := Lib.hid hA1
                  have HA2 := Lib.hid hA2
                  have HB12 := Lib.hid hB12
                  clear hA1 hA2 hB12
                  go_wp2_with fail
                  refine (K5.out _ _ _ _ _ HA1.out HA2.out).mono ?_
                  rintro e w13 ⟨rfl, kk, rfl⟩
                  go_wp2_with fail
                  go_ret
                  exact ⟨rfl, below_drewN HB12.out kk⟩
                · have e1 : (jj : Int) < (N : Int) := by omega
                  have e2 : (jj : Int) < 140 := by omega
                  go_wp2_with fail
                  refine (K1.out _ HP2.out).mono ?_
                  rintro e w9 ⟨rfl, hP9⟩
                  have HP9 := Lib.hid hP9
                  clear hP9
                  go_wp2_with fail
                  refine (K2.out _ HP9.out).mono ?_
                  rintro e w10 ⟨rfl, hP10⟩
                  have HP10 := Lib.hid hP10
                  clear hP10
                  go_wp2_with fail
                  refine (M1.out _ HP10.out).mono ?_
                  rintro e w11 ⟨rfl, rfl⟩
                  go_wp2_with fail
                  refine (M2.out _ HP10.out).mono ?_
                  rintro e w11 ⟨rfl, rfl⟩
                  go_wp2_with fail
                  refine (K3.out _ HP10.out).mono ?_
                  rintro e w11 ⟨a1, c1, rfl, hP11⟩
                  have HP11 := Lib.hid hP11
                  clear hP11
                  go_wp2_with fail
                  refine (K4.out _ _ HP11.out).mono ?_
                  rintro e w12 ⟨a2, c2, rfl, hA1, hA2, hB12⟩
                  have HA1 := Lib.hid hA1
                  have HA2 := Lib.hid hA2
                  have HB12 := Lib.hid hB12
                  clear hA1 hA2 hB12
                  go_wp2_with fail
                  refine (K5.out _ _ _ _ _ HA1.out HA2.out).mono ?_
                  rintro e w13 ⟨rfl, kk, rfl⟩
                  go_wp2_with fail
                  go_ret
                  exact ⟨rfl, below_drewN HB12.out kk⟩
          · exact absurd rfl hne
end Go.Proofs.YtalnepcbaegaeaaDoor
