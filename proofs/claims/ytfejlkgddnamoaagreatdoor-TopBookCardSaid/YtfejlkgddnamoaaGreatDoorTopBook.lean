/- WALK: the law TopBook. -/
import Derived.Test.YtfejlkgddnamoaaGreatDoorTopState
import Derived.Test.YtfejlkgddnamoaaGreatDoorErrA
import Derived.WalkSmall
import Derived.Deep.CutBlock
import Derived.Deep.DeepCutAuto
set_option linter.unusedVariables false
set_option linter.unusedSimpArgs false
namespace Go.Proofs.YtfejlkgddnamoaaGreatDoor
open Go Go.RowKit SimPlain HeapPlain BookPlain SymPlain NumPlain SpPlain LinesPlain

theorem wf_range {n : Int} (h : (Lit.int .i64 n).wf = true) : -9223372036854775808 ≤ n ∧ n ≤ 9223372036854775807 := by
  simp [Lit.wf, IntKind.min, IntKind.max, IntKind.signed, IntKind.bits] at h
  omega
set_option maxRecDepth 100000 in
set_option maxHeartbeats 4000000 in
theorem TopBook_walk (l : List Ev) (a0 : Option Addr) (cap0 : Nat) (k : Int) (l2 : List Ev) (a2 : Option Addr) (cap2 : Nat) (w : World) (hx : EvA w a0 l) (hl : l.length ≤ 9223372036854775807) (hcap : l.length ≤ cap0) (hcm : cap0 ≤ 9223372036854775807) (hnone : a0 = none → cap0 = 0)
    (hk0 : -9223372036854775808 ≤ k) (hk1 : k ≤ 9223372036854775807) (hx2 : EvA w a2 l2) (hl2 : l2.length ≤ 9223372036854775807) (env : Env w) (hg : Handle w) :
    Calls Tryz.prog 3 #[.slice a0 l.length cap0, .int .i64 k, .slice a2 l2.length cap2] w fun e w' => e = .returned (.bool true) ∧ Below w.heap.size w w' := by
  have HEnv := Lib.hid env
  have HG := Lib.hid hg
  have HX := Lib.hid hx
  have HX2 := Lib.hid hx2
  have HNo := Lib.hid hnone
  have HFact := Lib.hid (sortFact_any w)
  have htl := env.tab.lt
  obtain ⟨N, hN⟩ : ∃ N, N = l.length := ⟨_, rfl⟩
  obtain ⟨N2, hN2⟩ : ∃ N, N = l2.length := ⟨_, rfl⟩
  rw [← hN] at hl hcap ⊢
  rw [← hN2] at hl2 ⊢
  have HN := Lib.hid hN
  have HN2 := Lib.hid hN2
  clear hx hx2 hN hN2 env hg hnone
  go_enter Tryz.func3, Tryz.ntmps3
  go_wp2_with fail
  refine HFact.out.mono ?_
  rintro e w1 ⟨rfl, hb1⟩
  have hw1 : w.heap.size ≤ w1.heap.size := hb1.size
  have HB1 := Lib.hid hb1
  have HNew := Lib.hid (BNew_any w1)
  clear hb1
  go_wp2_with fail
  refine HNew.out.mono ?_
  rintro e w2 ⟨S, rfl, hq, hb2⟩
  have HQ0 : Hid (QRel l w w1 S 0 w2) := Lib.hid ⟨fun j hj => absurd hj (by omega), ⟨_, ⟨hq, by show (0 : Nat) ≤ 60; omega, by show (0 : Int) ≤ 0; omega, by show (0 : Int) ≤ 0; omega, by show (0 : Nat) ≤ _; omega⟩⟩, HB1.out.trans (hb2.mono hw1), hb2⟩
  clear hq hb2
  go_upto_block 0 with fail
  go_cut [9] (fun s9 wx => ∃ i : Nat, s9 = .int .i64 i ∧ i ≤ N ∧ i ≤ 30 ∧ (i < N → i = 30) ∧ QRel l w w1 S i wx)
  case first =>
    go_wp2_with fail
    go_loopw [9] (fun iv wr => ∃ i : Nat, iv = .int .i64 i ∧ i ≤ N ∧ i ≤ 30 ∧ QRel l w w1 S i wr) (fun iv _ => 30 - (intOf iv).toNat)
    case atStart => exact ⟨0, rfl, by omega, by omega, HQ0.out⟩
    case round =>
      obtain ⟨i, rfl, hiN, hi30, hQ⟩ := hrel
      have HQ := Lib.hid hQ
      obtain ⟨hq1, ⟨F, hS⟩, hq3, hq4⟩ := hQ
      have hwr : w1.heap.size ≤ wr.heap.size := hq4.size
      have htw : Tab wr := (HEnv.out.to hq3).tab
      have hfb : ∀ k, F k → w1.heap.size ≤ k := fun k hk => (hS.book.fb k hk).1
      have hTwo := (pushAll_two l i (by omega) (by rw [← HN.out]; exact hiN) hq1).1
      rcases Nat.lt_or_ge i N with hlt | hge
      · have hI : (i : Int) < (N : Int) := by omega
        rcases Nat.lt_or_ge i 30 with h30 | h30
        · have h30I : (i : Int) < 30 := by omega
          obtain ⟨b, off, rfl, hbl, hcs⟩ := HX.out.open (by have := HN.out; omega)
          obtain ⟨c0, c1⟩ := hcs i (by have := HN.out; omega)
          replace c0 := (hq3.cell (p := ⟨b, off + i * 2, none⟩) hbl).trans c0
          replace c1 := (hq3.cell (p := ⟨b, off + i * 2 + 1, none⟩) hbl).trans c1
          have hbl2 : b < wr.heap.size := by omega
          obtain ⟨key, hkey⟩ : ∃ k, k = (l.getD i e0).t := ⟨_, rfl⟩
          obtain ⟨id, hid⟩ : ∃ k, k = (l.getD i e0).id := ⟨_, rfl⟩
          rw [← hkey] at c0
          rw [← hid] at c1
          have hP := hS.push_any (by omega) hwr (by omega) htw key id
          rcases Bool.eq_false_or_eq_true (okE ⟨key, id, 0⟩) with hok | hok
          · have hpc : pcode (pushAll (l.take i)) ⟨key, id, 0⟩ = 0 := by
              unfold pcode
              rw [if_pos hok, if_pos]
              rw [hTwo.len, List.length_take, num_length]; omega
            rw [hpc, errV_ok] at hP
            have HP := Lib.hid hP
            have HNx : Hid (∀ w5, BookS w5 w1.heap.size S (Grow F wr w5) (pushS (pushAll (l.take i)) ⟨key, id, 0⟩) (i + 1) → Only wr w5 F → QRel l w w1 S (i + 1) w5) := Lib.hid fun w5 h5 o5 =>
              HQ.out.next hw1 (by have := HN.out; omega) hkey hid hok hfb h5 o5
            clear hcs hkey hid hok hP hpc hTwo hS hq1 hq3 hq4 htw hfb
            go_wp2_with fail
            refine HP.out.mono ?_
            rintro e w5 ⟨rfl, hS5, o5⟩
            have HQ5 := Lib.hid (HNx.out w5 hS5 o5)
            clear hS5 o5
            go_wp2
            go_roundw
            case rel => exact ⟨i + 1, by go_num, by omega, by omega, HQ5.out⟩
            case measure => simp only [intOf]; omega
          · have hpc : pcode (pushAll (l.take i)) ⟨key, id, 0⟩ = 1 := by
              unfold pcode
              rw [if_neg (by rw [hok]; decide)]
            rw [hpc, errV_bad (by decide)] at hP
            have HP := Lib.hid hP
            have Hq3 := Lib.hid hq3
            have Hfb := Lib.hid hfb
            clear hcs hkey hid hok hP hpc hTwo hS hq1 hq3 hq4 htw hfb
            go_wp2_with fail
            refine HP.out.mono ?_
            rintro e w5 ⟨rfl, hS5, o5⟩
            have HB5 : Hid (Below w.heap.size w w5) := Lib.hid (((only_of_below Hq3.out (fun k => w.heap.size ≤ k)).trans o5 (fun k _ c => by have := Hfb.out k c; omega)).below (Nat.le_refl _) (fun _ h => h))
            clear hS5 o5
            go_wp2
            go_ret
            exact ⟨rfl, HB5.out⟩
        · obtain rfl : i = 30 := by omega
          clear hTwo hS hq1 hq3 hq4 htw hfb
          go_wp2_with fail
          go_meet
          exact ⟨30, rfl, hiN, hi30, fun _ => rfl, HQ.out⟩
      · have hI : decide ((i : Int) < (N : Int)) = false := decide_eq_false (by omega)
        have hI2 : decide (i < N) = false := decide_eq_false (by omega)
        clear hTwo hS hq1 hq3 hq4 htw hfb
        go_wp2_with fail
        go_meet
        exact ⟨i, rfl, hiN, hi30, fun h => absurd h (by omega), HQ.out⟩
  case rest =>
    obtain ⟨i, rfl, hiN, hi30, hend, hQ⟩ := hcut
    obtain ⟨hq1, ⟨F, hS⟩, hq3, hq4⟩ := hQ
    have hfb : ∀ k, F k → w1.heap.size ≤ k := fun k hk => (hS.book.fb k hk).1
    obtain ⟨A, hA⟩ : ∃ A, A = l.take i := ⟨_, rfl⟩
    rw [← hA] at hS
    have hAl : A.length = i := by rw [hA, List.length_take]; have := HN.out; omega
    have hAok : ∀ j, j < A.length → okE ⟨(A.getD j e0).t, (A.getD j e0).id, 0⟩ = true := fun j hj => by
      have h := hq1 j (by omega)
      have e : A.getD j e0 = l.getD j e0 := by
        rw [hA, List.getD_eq_getElem?_getD, List.getElem?_take_of_lt (by omega), ← List.getD_eq_getElem?_getD]
      rw [e]; exact h
    obtain ⟨T, hT⟩ : ∃ T, T = (pushAll A).T := ⟨_, rfl⟩
    obtain ⟨Y, hY⟩ : ∃ Y : ByteArray, Y = ⟨T.toArray⟩ := ⟨_, rfl⟩
    have hYs : Y.size = T.length := by rw [hY]; simp [ByteArray.size]
    have hTx : T.length ≤ 3000 := by rw [hT]; have := hS.txt; omega
    have HText : Hid (Calls Tryz.prog 10 #[.pointer (some ⟨S, 0, none⟩)] wc fun e w' => e = .returned (.string Y) ∧ Below w.heap.size w w') := Lib.hid (by
      rw [hY, hT]
      refine (BText_any S w1.heap.size F _ _ _ wc hS.book).mono ?_
      rintro e w' ⟨rfl, -, o⟩
      exact ⟨rfl, hq3.trans (o.below hq3.size (fun k c => by have := hfb k c; omega))⟩)
    have HOpenP := Lib.hid (top_open A hAok (by omega))
    have hpos := top_txt A hAok (by omega)
    rw [← hT] at HOpenP hpos
    have hsay : N = 0 ∨ (0 < N ∧ 0 < Y.size) := by
      rcases Nat.eq_zero_or_pos N with h | h
      · exact .inl h
      · refine .inr ⟨h, ?_⟩
        rw [hYs]
        refine hpos ?_
        rw [hAl]
        rcases Nat.lt_or_ge i N with h1 | h1
        · have := hend h1; omega
        · omega
    have HSay := Lib.hid hsay
    have HY := Lib.hid hY
    have HYs := Lib.hid hYs
    have HTx := Lib.hid hTx
    have HA := Lib.hid hA
    have HAl := Lib.hid hAl
    have HAok := Lib.hid hAok
    have Hi30 := Lib.hid hi30
    have HiN := Lib.hid hiN
    clear hS hq1 hq3 hq4 hfb hA hAl hAok hT hY hYs hTx hpos hend hsay
    go_wp2_with fail
    refine HText.out.mono ?_
    rintro e w3 ⟨rfl, hb3⟩
    have HB3 := Lib.hid hb3
    clear hb3
    by_cases hneg : k < 0
    · rcases HSay.out with h0 | ⟨h0, hy⟩
      · subst h0
        go_wp2
        go_ret
        exact ⟨rfl, HB3.out⟩
      · have h0I : ((N : Int) == 0) = false := by rw [beq_eq_false_iff_ne]; omega
        have hyI : (0 : Int) < (Y.size : Int) := by omega
        go_wp2
        go_ret
        exact ⟨rfl, HB3.out⟩
    · have hk0' : (0 : Int) ≤ k := by omega
      have hnn : decide (k < 0) = false := decide_eq_false hneg
      clear hneg
      by_cases hbig : (Y.size : Int) < k
      · rcases HSay.out with h0 | ⟨h0, hy⟩
        · subst h0
          go_wp2
          go_ret
          exact ⟨rfl, HB3.out⟩
        · have h0I : ((N : Int) == 0) = false := by rw [beq_eq_false_iff_ne]; omega
          have hyI : (0 : Int) < (Y.size : Int) := by omega
          go_wp2
          go_ret
          exact ⟨rfl, HB3.out⟩
      · obtain ⟨kn, rfl⟩ : ∃ kn : Nat, k = kn := ⟨k.toNat, by omega⟩
        have hkY : (kn : Int) ≤ (Y.size : Int) := by omega
        have hkN : kn ≤ Y.size := by omega
        have hns : Y.size ≤ 3000 := by rw [HYs.out]; exact HTx.out
        clear hbig hk0 hk1 hnn
        obtain ⟨m, hm1, hm2, hm3⟩ := HOpenP.out kn (by rw [← HYs.out]; exact hkN)
        have hTt : (⟨(T.take kn).toArray⟩ : ByteArray) = Y.extract 0 kn := by
          apply ByteArray.ext; apply Array.toList_inj.1
          rw [Lib.extract_data, HY.out]; simp
        have hmi : m ≤ i := by have := HAl.out; omega
        have HOpen := Lib.hid (Open_any (T.take kn) w3 (HEnv.out.to HB3.out) (by rw [List.length_take]; have := HTx.out; omega) (by have := HAl.out; omega))
        rw [hTt] at HOpen
        have HM2 := Lib.hid hm2
        have HM3 : Hid ((linesOf (T.take kn)).length ≤ 31) := Lib.hid (by have := HAl.out; omega)
        clear hm1 hm2 hm3 hTt
        go_wp2_with fail
        refine HOpen.out.mono ?_
        rintro e w4 ⟨hb4, hres⟩
        rw [HM2.out] at hres
        rcases hres with ⟨-, So, Fo, io, Bo, hio, hBo, hBo2, rfl, hSo⟩ | ⟨hne, -⟩
        · have hmN : (m : Int) ≤ (N : Int) := by omega
          have hm30 : (m : Int) ≤ 30 := by omega
          have hm0 : (0 : Int) ≤ (m : Int) := by omega
          have hmc : (m : Int) ≤ (cap0 : Int) := by omega
          have hmcN : m ≤ cap0 := by omega
          have HB4 : Hid (Below w.heap.size w w4) := Lib.hid (HB3.out.trans (hb4.mono HB3.out.size))
          have HSo := Lib.hid hSo
          have HIo : Hid (io ≤ 31) := Lib.hid (by have := HM3.out; omega)
          have HBo : Hid (w.heap.size ≤ Bo ∧ Bo ≤ w4.heap.size) := Lib.hid ⟨by have := HB3.out.size; omega, hBo2⟩
          obtain ⟨i0, hi0, hz0, hz1, hz2⟩ := info_parts etInfo
          have hAm : Hid (A.take m = l.take m) := Lib.hid (by rw [HA.out, List.take_take, Nat.min_eq_left hmi])
          have hml : (A.take m).length = m := by rw [List.length_take]; have := HAl.out; omega
          have Hml := Lib.hid hml
          -- what the first append leaves
          have Hres : Hid (∀ v' w8, w8.ownsRow w4.heap.size 30 2 v' m (flat2 (A.take m)) → Below w4.heap.size w4 w8 → ∃ aA cA, v' = .slice aA m cA ∧ TopI w w4 So Bo m 0 (A.take m) aA cA w8) := Lib.hid fun v' w8 ow b8 => by
            obtain ⟨aA, cA, rfl, hE⟩ := EtOwn.of ow
            have o8 := only_of_below b8 (fun _ => False)
            refine ⟨aA, cA, by rw [Hml.out], fun x hx => ?_, by rw [Hml.out]; exact Nat.le_refl _, ⟨Fo, io, by have := HIo.out; omega, ⟨HSo.out.book.only o8 (fun _ _ c => c), HSo.out.many, HSo.out.lo, HSo.out.hi, HSo.out.txt⟩, fun k hk c => ?_⟩, hE, HB4.out.trans (b8.mono HB4.out.size), b8.size⟩
            · have hxm : x < m := by rw [Hml.out] at hx; exact hx
              have e : (A.take m).getD x e0 = A.getD x e0 := by rw [List.getD_eq_getElem?_getD, List.getElem?_take_of_lt hxm, ← List.getD_eq_getElem?_getD]
              rw [e]; exact HAok.out x (by have := HAl.out; omega)
            · have := (hE.lt k hk).1
              have := (HSo.out.book.fb k c).2
              omega
          clear hSo hBo hBo2 hio hb4 hml
          go_upto_region 17 with fail
          go_cut [12, 14] (fun s12 s14 wx => ∃ aA cA, s12 = .int .i64 m ∧ s14 = .slice aA m cA ∧ TopI w w4 So Bo m 0 (A.take m) aA cA wx)
          case first =>
            cases a0 with
            | none =>
              have hl0 : l = [] := by
                rcases HX.out with h | ⟨b, off, h, -, -⟩
                · exact h
                · cases h
              have hN0 : N = 0 := by rw [HN.out, hl0]; rfl
              have hm00 : m = 0 := by omega
              have hA0 : flat2 (A.take m) = [] := by rw [hm00]; simp [flat2]
              obtain rfl := HNo.out rfl
              obtain ⟨aA, cA, e1, hI⟩ := Hres.out (.slice none 0 0) w4 (by rw [hA0, hm00]; exact World.ownsRow_nil _ _ _ _) (Below.refl _ _)
              have HI := Lib.hid hI
              have HE1 := Lib.hid e1
              subst hm00
              clear hl0 hA0 e1 hI hN0 hmcN hmc hmN hm30 hm0 hmi
              go_wp2_with (at_builtin; refine wpList_append_own_none _ rfl (.tmp 86) (.tmp 89) 22 rfl w4.heap.size 30 i0 2 Tryz.underlying22 hi0 (.slice none 0 0) 0 [] rfl (World.ownsRow_nil _ _ _ _) rfl ?_)
              go_meet
              exact ⟨aA, cA, rfl, HE1.out, HI.out⟩
            | some ad =>
              have hnews : ∀ j u, (flat2 (A.take m))[j]? = some u → w4.cell? (ad.add j) = some u := by
                rw [hAm.out]
                rcases Nat.eq_zero_or_pos l.length with h0 | h0
                · have : l = [] := List.eq_nil_of_length_eq_zero h0
                  rw [this]; intro j u h; simp [flat2] at h
                · obtain ⟨b, off, e, hbl, hcs⟩ := (HX.out.below HB4.out).open h0
                  obtain rfl := Option.some.inj e
                  refine EvA.from (l := l.take m) fun x hx => ?_
                  have hxm : x < m := by rw [List.length_take] at hx; omega
                  have e : (l.take m).getD x e0 = l.getD x e0 := by rw [List.getD_eq_getElem?_getD, List.getElem?_take_of_lt hxm, ← List.getD_eq_getElem?_getD]
                  rw [e]; exact hcs x (by rw [List.length_take] at hx; omega)
              have hlen : (flat2 (A.take m)).length = m * 2 := by rw [flat2_length, Hml.out]
              have HNews := Lib.hid hnews
              have HLen := Lib.hid hlen
              clear hnews hlen
              go_wp2_with (at_builtin; refine wpList_append_own _ rfl (.tmp 86) (.tmp 89) 22 rfl w4.heap.size 30 i0 (.agg #[.int .i64 0, .int .i64 0]) 2 16 Tryz.underlying22 hi0 hz0 hz1 hz2 rfl (by decide) (.slice none 0 0) 0 [] rfl (World.ownsRow_nil _ _ _ _) ad m cap0 (flat2 (A.take m)) rfl HLen.out HNews.out (one_cells2 _) (by unfold maxLen; omega) (by omega) (Nat.le_refl _) ?_; intro v1 w8 o1 g1 _; obtain ⟨aA, cA, e1, hI⟩ := Hres.out v1 w8 (by simpa using o1) (grown_below g1 (Nat.le_refl _) (fun k hk => by simp [Value.ownBlock] at hk)); have HI := Lib.hid hI; have HE1 := Lib.hid e1; clear o1 g1 e1 hI)
              go_meet
              exact ⟨aA, cA, rfl, HE1.out, HI.out⟩
          case rest =>
            obtain ⟨aA, cA, rfl, rfl, hI⟩ := hcut
            have HI0 := Lib.hid hI
            clear hI
            go_upto_block 2 with fail
            go_cut [14, 15] (fun s14 s15 wx => ∃ (j n : Nat) (all : List Ev) (a : Option Addr) (c : Nat), s14 = .slice a n c ∧ n = all.length ∧ s15 = .int .i64 j ∧ j ≤ 30 ∧ TopI w w4 So Bo m j all a c wx)
            case first =>
              go_wp2_with fail
              go_loopw [14, 15] (fun av jv wr => ∃ (j n : Nat) (all : List Ev) (a : Option Addr) (c : Nat), av = .slice a n c ∧ n = all.length ∧ jv = .int .i64 j ∧ j ≤ 30 ∧ j ≤ N2 ∧ TopI w w4 So Bo m j all a c wr) (fun _ jv _ => 30 - (intOf jv).toNat)
              case atStart => exact ⟨0, m, A.take m, aA, cA, rfl, Hml.out.symm, rfl, by omega, by omega, HI0.out⟩
              case round =>
                obtain ⟨j, n, all, a, c, rfl, hn, rfl, hj30, hjN, hI⟩ := hrel
                have HI := Lib.hid hI
                have Hn := Lib.hid hn
                obtain ⟨F, ii, hii, hS, hsep⟩ := hI.book
                rcases Nat.lt_or_ge j N2 with hlt | hge
                · have hJ : (j : Int) < (N2 : Int) := by omega
                  rcases Nat.lt_or_ge j 30 with h30 | h30
                  · have h30I : (j : Int) < 30 := by omega
                    obtain ⟨b, off, rfl, hbl, hcs⟩ := HX2.out.open (by have := HN2.out; omega)
                    obtain ⟨c0, c1⟩ := hcs j (by have := HN2.out; omega)
                    obtain ⟨x, hxx⟩ : ∃ x, x = l2.getD j e0 := ⟨_, rfl⟩
                    rw [← hxx] at c0 c1
                    obtain ⟨key, hkey⟩ : ∃ k, k = x.t := ⟨_, rfl⟩
                    obtain ⟨id, hid⟩ : ∃ k, k = x.id := ⟨_, rfl⟩
                    rw [← hkey] at c0
                    rw [← hid] at c1
                    have HC : Hid (∀ W, Below w.heap.size w W → W.cell? ⟨b, off + j * 2, none⟩ = some (.int .i64 key) ∧ W.cell? ⟨b, off + j * 2 + 1, none⟩ = some (.int .i64 id)) := Lib.hid fun W bb => ⟨(bb.cell (p := ⟨b, off + j * 2, none⟩) hbl).trans c0, (bb.cell (p := ⟨b, off + j * 2 + 1, none⟩) hbl).trans c1⟩
                    obtain ⟨c0', c1'⟩ := HC.out wr hI.low
                    have hP := hS.push_any (by omega) (Nat.le_trans HBo.out.2 hI.sz) (by have := HBo.out.1; omega) (HEnv.out.to hI.low).tab key id
                    have hall60 : all.length < 60 := by have := hI.len; omega
                    have Hii := Lib.hid hii
                    have HS := Lib.hid hS
                    have HSep := Lib.hid hsep
                    have Hkey := Lib.hid hkey
                    have Hid' := Lib.hid hid
                    rcases Bool.eq_false_or_eq_true (okE ⟨key, id, 0⟩) with hok | hok
                    · have hpc : pcode (pushAll all) ⟨key, id, 0⟩ = 0 := by rw [hkey, hid]; exact (pushS_ok all x hI.ok hall60).1.2 (by rw [← hkey, ← hid]; exact hok)
                      have hst : pushS (pushAll all) ⟨key, id, 0⟩ = pushAll (all ++ [x]) := by rw [pushAll_app, pushS_ev _ x, hkey, hid]
                      rw [hpc, errV_ok, hst] at hP
                      have HP := Lib.hid hP
                      have HOk := Lib.hid hok
                      have hn60 : n ≤ 60 := by rw [hn]; omega
                      clear c0 c1 hcs hxx hkey hid hok hP hpc hst hS hsep hii hI hall60 hn
                      go_wp2_with fail
                      refine HP.out.mono ?_
                      rintro e w5 ⟨rfl, hS5, o5⟩
                      have hl5 : Below w.heap.size w w5 := HI.out.low.trans (o5.below HI.out.low.size (fun k c => by have := (HS.out.book.fb k c).1; have := HBo.out.1; omega))
                      obtain ⟨d0, d1⟩ := HC.out w5 hl5
                      obtain ⟨hO6, hs6, hres⟩ := HI.out.add (W6 := w5.alloc (.cells #[.int .i64 key, .int .i64 id] 30)) Hii.out HBo.out.1 HB4.out.size HS.out HSep.out rfl Hkey.out Hid'.out HOk.out hS5 o5 n Hn.out rfl
                      have HO6 := Lib.hid hO6
                      have HS6 := Lib.hid hs6
                      have HRes := Lib.hid hres
                      clear hS5 o5 hl5 hO6 hs6 hres c0' c1'
                      go_wp2_with (at_builtin; refine wpList_append_own_at _ rfl (.tmp 108) (.tmp 113) 22 rfl w4.heap.size 30 i0 (.agg #[.int .i64 0, .int .i64 0]) 2 16 Tryz.underlying22 hi0 hz0 hz1 hz2 rfl (by decide) (.slice a n c) n (flat2 all) rfl HO6.out ⟨_, 0, none⟩ 1 1 [.int .i64 key, .int .i64 id] rfl rfl (et_cells_new _ _ _ _ _ rfl) (by simp [Value.oneCell']) (by unfold maxLen; omega) (by omega) HS6.out ?_; intro v2 w8 o8 g8 _ n8; obtain ⟨a8, c8, hv8, hd8⟩ := HRes.out v2 w8 o8 g8 (by simpa using n8); subst hv8; have HD8 := Lib.hid hd8; clear o8 g8 n8 hd8)
                      go_roundw
                      case rel => exact ⟨j + 1, n + 1, all ++ [x], a8, c8, by first | rfl | go_num, by rw [List.length_append, Hn.out]; rfl, by go_num, by omega, by omega, HD8.out⟩
                      case measure => simp only [intOf]; omega
                    · have hpc : pcode (pushAll all) ⟨key, id, 0⟩ = 1 := by
                        unfold pcode
                        rw [if_neg (by rw [hok]; decide)]
                      have hst : pushS (pushAll all) ⟨key, id, 0⟩ = pushAll all := by rw [hkey, hid]; exact (pushS_ok all x hI.ok hall60).2 (by rw [← hkey, ← hid]; exact hok)
                      rw [hpc, errV_bad (by decide), hst] at hP
                      have HP := Lib.hid hP
                      clear c0 c1 hcs hxx hkey hid hok hP hpc hst hS hsep hii hI hall60 hn
                      go_wp2_with fail
                      refine HP.out.mono ?_
                      rintro e w5 ⟨rfl, hS5, o5⟩
                      have HD5 := Lib.hid (HI.out.keep Hii.out HBo.out.1 HS.out HSep.out rfl hS5 o5)
                      clear hS5 o5 c0' c1'
                      go_wp2
                      go_roundw
                      case rel => exact ⟨j + 1, n, all, a, c, rfl, Hn.out, by go_num, by omega, by omega, HD5.out⟩
                      case measure => simp only [intOf]; omega
                  · obtain rfl : j = 30 := by omega
                    clear hS hsep hI hii hn
                    go_wp2_with fail
                    go_meet
                    exact ⟨30, n, all, a, c, rfl, Hn.out, rfl, by omega, HI.out⟩
                · have hJ : decide ((j : Int) < (N2 : Int)) = false := decide_eq_false (by omega)
                  have hJ2 : decide (j < N2) = false := decide_eq_false (by omega)
                  clear hS hsep hI hii hn
                  go_wp2_with fail
                  go_meet
                  exact ⟨j, n, all, a, c, rfl, Hn.out, rfl, hj30, HI.out⟩
            case rest =>
              obtain ⟨j, n, all, a, c, rfl, hn, rfl, hj30, hI⟩ := hcut
              obtain ⟨F, ii, hii, hS, hsep⟩ := hI.book
              have hall60 : all.length ≤ 60 := by have := hI.len; omega
              have hSort := Sort_own all a c wc hI.row.toA (chkI_of hall60 hI.ok) hI.row.noneCap
              rw [← hn] at hSort
              have HSort := Lib.hid hSort
              have HI := Lib.hid hI
              have HS := Lib.hid hS
              have Hii := Lib.hid hii
              have Hn := Lib.hid hn
              have H60 := Lib.hid hall60
              clear hSort hI hS hsep hii hn hall60
              go_wp2_with fail
              refine HSort.out.mono ?_
              rintro e w6 ⟨a6, n6, c6, W, rfl, hW1, hp, hs, hE, hb6⟩
              obtain ⟨hqW, hWl⟩ := sorted_all all W HI.out.ok H60.out hp hs
              obtain rfl : n = n6 := by rw [← hW1, hWl]; exact Hn.out
              have hn60 : n ≤ 60 := by rw [Hn.out]; exact H60.out
              obtain ⟨seq, hseq⟩ : ∃ q, q = (pushAll all).seq := ⟨_, rfl⟩
              have hbk := HS.out.book.only (only_of_below hb6 (fun _ => False)) (fun _ _ c => c)
              rw [hqW, ← hseq] at hbk
              have hM := BMany_any So Bo F W _ _ w6 hbk (by omega)
              rw [hW1] at hM
              have HM := Lib.hid hM
              have HB6 : Hid (Below w.heap.size w w6) := Lib.hid (HI.out.low.trans (hb6.mono HI.out.low.size))
              have HC0 : Hid (TopC w6 So Bo F W seq 0 F (pushAll all).T w6) := Lib.hid ⟨by rw [List.drop_zero]; exact hbk, fun k hk => .inl hk, Only.refl _ _, by have := HS.out.txt; have := Hii.out; omega⟩
              have HFb : Hid (∀ k, F k → w.heap.size ≤ k ∧ k < wc.heap.size) := Lib.hid fun k hk => ⟨by have := (HS.out.book.fb k hk).1; have := HBo.out.1; omega, (HS.out.book.fb k hk).2⟩
              have HBo6 : Hid (Bo ≤ w6.heap.size) := Lib.hid (Nat.le_trans (Nat.le_trans HBo.out.2 HI.out.sz) hb6.size)
              have HE := Lib.hid hE
              have HW1 := Lib.hid hW1
              have HLow : Hid (∀ V, Only w6 V F → Below w.heap.size w V) := Lib.hid fun V o => HB6.out.trans (o.below HB6.out.size (fun k c => (HFb.out k c).1))
              clear hW1 hp hs hE hb6 hqW hWl hseq hbk hM
              have hnn : ((n : Int) != (n : Int)) = false := by simp
              have hgd := item_guard
              have hnq := item_neq
              go_wp2_with fail
              refine HM.out.mono ?_
              rintro e w7 ⟨rfl, rfl⟩
              go_wp2
              go_loopw [18] (fun iv wr => ∃ (i : Nat) (F1 : Nat → Prop) (T1 : List UInt8), iv = .int .i64 i ∧ i ≤ n ∧ TopC w6 So Bo F W seq i F1 T1 wr) (fun iv _ => n - (intOf iv).toNat)
              case atStart => exact ⟨0, F, _, rfl, Nat.zero_le _, HC0.out⟩
              case round =>
                obtain ⟨i, F1, T1, rfl, hin, hC⟩ := hrel
                have HC := Lib.hid hC
                rcases Nat.lt_or_ge i n with hlt | hge
                · have hI : (i : Int) < (n : Int) := by omega
                  have hiW : i < W.length := by rw [HW1.out]; exact hlt
                  have hd := List.drop_eq_getElem_cons hiW
                  obtain ⟨x, hx⟩ : ∃ x, x = W[i] := ⟨_, rfl⟩
                  obtain ⟨q, hq⟩ : ∃ q, q = W.drop (i + 1) := ⟨_, rfl⟩
                  rw [← hx, ← hq] at hd
                  have hxg : W.getD i e0 = x := by rw [hx, List.getD_eq_getElem?_getD, List.getElem?_eq_getElem hiW]; rfl
                  have hE2 := HE.out (by intro h; rw [h] at hiW; simp at hiW)
                  obtain ⟨g, rfl, _, hg6, hcs⟩ := hE2.open (by omega)
                  have hgF : ¬ F g := fun h => by have := (hE2.lt g rfl).1; have := (HFb.out g h).2; omega
                  obtain ⟨e0', e1'⟩ := hcs i hiW
                  rw [hxg] at e0' e1'
                  obtain ⟨key, hkey⟩ : ∃ k, k = x.t := ⟨_, rfl⟩
                  obtain ⟨id, hid⟩ : ∃ k, k = x.id := ⟨_, rfl⟩
                  rw [← hkey] at e0'
                  rw [← hid] at e1'
                  have HCell : Hid (∀ V, Only w6 V F → V.cell? ⟨g, i * 2, none⟩ = some (.int .i64 key) ∧ V.cell? ⟨g, i * 2 + 1, none⟩ = some (.int .i64 id)) := Lib.hid fun V o =>
                    ⟨(World.cell?_of_block (a := ⟨g, i * 2, none⟩) (o.block g hg6 hgF)).trans e0', (World.cell?_of_block (a := ⟨g, i * 2 + 1, none⟩) (o.block g hg6 hgF)).trans e1'⟩
                  have hbk := hC.book
                  rw [hd] at hbk
                  have hP := BPop_some So Bo F1 x q seq T1 wr hbk (by have h1 := congrArg List.length hd; rw [List.length_drop, List.length_cons] at h1; have h2 := HW1.out; omega) (Nat.le_trans HBo6.out hC.only.size) (HEnv.out.to (HLow.out wr hC.only)).tab (by have := hC.txt; omega)
                  unfold PoppedRes at hP
                  rw [← hkey, ← hid] at hP
                  have HP := Lib.hid hP
                  have HDr := Lib.hid hd
                  clear hd hx hq hxg hE2 hcs e0' e1' hkey hid hbk hP hC hiW hg6 hgF
                  go_wp2_with fail
                  refine HP.out.mono ?_
                  rintro e w5 ⟨rfl, hQ5, o5⟩
                  have HNx : Hid (∀ V, Only w5 V (fun _ => False) → TopC w6 So Bo F W seq (i + 1) (Grow F1 wr w5) (T1 ++ lineB popB) V) := Lib.hid fun V o8 => HC.out.next HDr.out hQ5 o5 o8
                  clear hQ5 o5
                  go_upto_region 30 with fail
                  obtain ⟨w8, hw8⟩ : ∃ w8, w8 = w5.alloc (.cells #[.int .i64 key, .int .i64 id] 30) := ⟨_, rfl⟩
                  rw [← hw8]
                  have y8 : w8.heap[w5.heap.size]? = some (.cells #[.int .i64 key, .int .i64 id] 30 (0, 0)) := by rw [hw8]; exact heap_alloc_new _ _
                  have o58 : Only w5 w8 (fun _ => False) := by rw [hw8]; exact Only.alloc _ _ (fun _ => False)
                  obtain ⟨d0, d1⟩ := HCell.out w8 (HNx.out w8 o58).only
                  have p0 : w8.cell? ⟨w5.heap.size, 0, none⟩ = some (.int .i64 key) := by simp [World.cell?, y8]
                  have p1 : w8.cell? ⟨w5.heap.size, 1, none⟩ = some (.int .i64 id) := by simp [World.cell?, y8]
                  have HNx8 : Hid (∀ nq, TopC w6 So Bo F W seq (i + 1) (Grow F1 wr w5) (T1 ++ lineB popB) (w8.drewN nq)) := Lib.hid fun nq => HNx.out _ (o58.drewN nq)
                  clear hw8 y8 o58
                  go_wp2_with fail
                  go_quiet (fail)
                  go_wp2
                  go_roundw
                  case rel => exact ⟨i + 1, _, _, by go_num, by omega, HNx8.out _⟩
                  case measure => simp only [intOf]; omega
                · obtain rfl : i = n := by omega
                  have hI : decide ((i : Int) < (i : Int)) = false := by simp
                  have hI2 : decide (i < i) = false := by simp
                  have hd0 : W.drop i = [] := List.drop_eq_nil_of_le (by rw [HW1.out]; exact Nat.le_refl _)
                  have hbk := hC.book
                  rw [hd0] at hbk
                  have HP := Lib.hid (BPop_none So Bo F1 seq T1 wr hbk)
                  have HBr := Lib.hid (HLow.out wr hC.only)
                  clear hd0 hbk hC
                  go_wp2_with fail
                  refine HP.out.mono ?_
                  rintro e w8 ⟨rfl, hb8⟩
                  have HB8 : Hid (Below w.heap.size w w8) := Lib.hid (HBr.out.trans (hb8.mono HBr.out.size))
                  have HErr : Hid (∀ W, Below w.heap.size w W → Calls Tryz.prog 15 #[.iface 56 (.int .i64 5), .int .i64 5] W fun e w' => e = .returned (.bool true) ∧ Below w.heap.size w w') := Lib.hid fun W b => by
                    have h := Error_any 5 5 W (HG.out.to b)
                    rw [errV_bad (by decide)] at h
                    exact h.mono fun e w' ⟨h1, h2⟩ => ⟨by rw [h1]; rfl, b.trans (h2.mono b.size)⟩
                  clear hb8
                  go_wp2_with fail
                  refine (HErr.out _ (HB8.out.alloc HB8.out.size _)).mono ?_
                  rintro e w9 ⟨rfl, hb9⟩
                  have HB9 := Lib.hid hb9
                  clear hb9
                  go_wp2
                  go_ret
                  exact ⟨rfl, HB9.out⟩
        · exact absurd rfl hne
end Go.Proofs.YtfejlkgddnamoaaGreatDoor
