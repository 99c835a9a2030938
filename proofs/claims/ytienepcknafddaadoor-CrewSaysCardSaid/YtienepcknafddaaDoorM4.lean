/- WALK: slices.symMergeCmpFunc of items by key: many on both sides. · WALK: slices.symMergeCmpFunc of items by key, any merge. · PLAIN LAW: stretches of a list that are sorted, and what a turn within one leaves of the others (no program in sight). -/
import Derived.Test.YtienepcknafddaaDoorM3
import Derived.Deep.DeepCutAuto
import Derived.Test.YtienepcknafddaaDoorM1
section
set_option linter.unusedVariables false
set_option linter.unusedSimpArgs false
namespace Go.Proofs.YtienepcknafddaaDoor
open Go Go.RowKit SimPlain HeapPlain SymPlain

/-- merges of up to n places -/
def SymAt (n : Nat) : Prop := ∀ (A U V Q : List Ev) (g cap B : Nat) (w : World) (N a m b : Nat), N = (A ++ (U ++ (V ++ Q))).length → a = A.length → m = a + U.length → b = m + V.length → 0 < U.length → 0 < V.length →
  U.Pairwise Lt → V.Pairwise Lt → (∀ x ∈ U, ∀ y ∈ V, Bef x y) → N ≤ 100 → EtOwn w B (some ⟨g, 0, none⟩) cap (A ++ (U ++ (V ++ Q))) → U.length + V.length ≤ n →
  Calls Tryd.prog 56 #[.slice (some ⟨g, 0, none⟩) N cap, .int .i64 a, .int .i64 m, .int .i64 b, fvK] w fun e w' => SymRes A U V Q g cap B w e w'
def CutAt (l : List Ev) (g cap B : Nat) (w wx : World) : Prop := EtOwn wx B (some ⟨g, 0, none⟩) cap l ∧ Only w wx (fun k => k = g)
set_option maxRecDepth 100000 in
set_option maxHeartbeats 8000000 in
theorem sym_mid (n : Nat) (IH : SymAt n) (A U V Q : List Ev) (g cap B : Nat) (w : World) (N a m b : Nat) (hN : N = (A ++ (U ++ (V ++ Q))).length) (ha : a = A.length) (hm : m = a + U.length) (hb : b = m + V.length) (hU2 : 2 ≤ U.length) (hV2 : 2 ≤ V.length)
    (hU : U.Pairwise Lt) (hV : V.Pairwise Lt) (hUV : ∀ x ∈ U, ∀ y ∈ V, Bef x y) (h100 : N ≤ 100) (hrow : EtOwn w B (some ⟨g, 0, none⟩) cap (A ++ (U ++ (V ++ Q)))) (hn : U.length + V.length ≤ n + 1) :
    Calls Tryd.prog 56 #[.slice (some ⟨g, 0, none⟩) N cap, .int .i64 a, .int .i64 m, .int .i64 b, fvK] w
      fun e w' => SymRes A U V Q g cap B w e w' := by
  have HIH := Lib.hid IH
  have HN := Lib.hid hN
  have HA := Lib.hid ha
  have Hm := Lib.hid hm
  have HB := Lib.hid hb
  have HU := Lib.hid hU
  have HV := Lib.hid hV
  have HUV := Lib.hid hUV
  have HRow := Lib.hid hrow
  have Hn := Lib.hid hn
  have hbN : b ≤ N := by rw [hN]; simp only [List.length_append]; omega
  have ham : a + 2 ≤ m := by omega
  have hmb : m + 2 ≤ b := by omega
  have hma : ((m : Int) - (a : Int) == 1) = false := by rw [beq_eq_false_iff_ne]; omega
  have hbm : ((b : Int) - (m : Int) == 1) = false := by rw [beq_eq_false_iff_ne]; omega
  obtain ⟨mid, hmid⟩ : ∃ mid, mid = (a + b) / 2 := ⟨_, rfl⟩
  have hmidI : ((a : Int) + (b : Int)) / 2 = (mid : Int) := by omega
  obtain ⟨nn, hnn⟩ : ∃ nn, nn = mid + m := ⟨_, rfl⟩
  have hnnI : (mid : Int) + (m : Int) = (nn : Int) := by omega
  have hmid1 : a < mid := by omega
  have hnn2 : nn ≤ 200 := by omega
  have hmid2 : mid < b := by omega
  have hgw := lt_of_block (hrow.block (by rw [← hN]; omega)).choose_spec
  have HZ := Lib.hid byKey_any
  have Hmid := Lib.hid hmid
  have Hnn := Lib.hid hnn
  clear hN ha hm hU hV hUV hrow hU2 hV2 hb IH hn hmid hnn
  unfold fvK
  go_enter Tryd.func56, Tryd.ntmps56
  go_upto_if 140 with fail
  go_cut [20, 21] (fun s20 s21 wx => w = wx ∧ ∃ lo hi : Nat, s20 = .int .i64 lo ∧ s21 = .int .i64 hi ∧ Bnds a m b mid lo hi)
  case first =>
    rcases Nat.lt_or_ge mid m with c | c
    · have c1 : (mid : Int) < (m : Int) := by omega
      obtain ⟨lo, hlo⟩ : ∃ lo, lo + b = mid + m := ⟨mid + m - b, by omega⟩
      have c2 : (nn : Int) - (b : Int) = (lo : Int) := by omega
      have HB0 : Hid (Bnds a m b mid lo mid) := Lib.hid (.inl ⟨c, hlo, rfl⟩)
      clear c hlo
      as_aux_lemma =>
        go_wp2_with fail
        go_meet
        exact ⟨rfl, lo, mid, rfl, rfl, HB0.out⟩
    · have c1 : (m : Int) ≤ (mid : Int) := by omega
      have c2 : decide ((mid : Int) < (m : Int)) = false := decide_eq_false (by omega)
      have HB0 : Hid (Bnds a m b mid a m) := Lib.hid (.inr ⟨c, rfl, rfl⟩)
      clear c
      as_aux_lemma =>
        go_wp2_with fail
        go_meet
        exact ⟨rfl, a, m, rfl, rfl, HB0.out⟩
  case rest =>
    obtain ⟨rfl, lo, hi, rfl, rfl, hBn⟩ := hcut
    obtain ⟨b1, b2, b3, b4, b5⟩ := hBn.all Hmid.out (by omega) (by omega)
    obtain ⟨p, hp⟩ : ∃ p, p + 1 = nn := ⟨nn - 1, by omega⟩
    have hpI : (nn : Int) - 1 = (p : Int) := by omega
    have hp2 : p ≤ 200 := by omega
    have HBn := Lib.hid hBn
    obtain ⟨L, hL⟩ : ∃ L, L = A ++ (U ++ (V ++ Q)) := ⟨_, rfl⟩
    have HRow2 : Hid (EtOwn w B (some ⟨g, 0, none⟩) cap L) := Lib.hid (by rw [hL]; exact HRow.out)
    have HLn : Hid (L.length = N) := Lib.hid (by rw [hL, HN.out])
    have HL := Lib.hid hL
    clear hBn hL
    go_wp2
    go_loopw [20, 21] (fun sv rv wr => ∃ s r : Nat, sv = .int .i64 s ∧ rv = .int .i64 r ∧ lo ≤ s ∧ s ≤ r ∧ r ≤ hi ∧ (s = lo ∨ ∀ i j, i + 1 = s → j + s = nn → (L.getD i e0).t ≤ (L.getD j e0).t) ∧ (r = hi ∨ ∀ j, j + 1 + r = nn → (L.getD j e0).t < (L.getD r e0).t) ∧ CutAt L g cap B w wr)
      (fun sv rv _ => (intOf rv).toNat - (intOf sv).toNat)
    case atStart => exact ⟨lo, hi, rfl, rfl, Nat.le_refl _, b2, Nat.le_refl _, .inl rfl, .inl rfl, HRow2.out, Only.refl _ _⟩
    case round =>
      obtain ⟨s, r, rfl, rfl, hls, hsr, hrh, hSL, hSR, hC⟩ := hrel
      have HSL := Lib.hid hSL
      have HSR := Lib.hid hSR
      have HR := Lib.hid hC.1
      have HO := Lib.hid hC.2
      clear hSL hSR hC
      rcases Nat.lt_or_ge s r with hlt | hge
      · obtain ⟨c, hc⟩ : ∃ c, c = (s + r) / 2 := ⟨_, rfl⟩
        have hltI : (s : Int) < (r : Int) := by omega
        have hcI : ((s : Int) + (r : Int)) / 2 = (c : Int) := by omega
        have hsc : s ≤ c := by omega
        have hcr : c < r := by omega
        obtain ⟨d, hd⟩ : ∃ d, d + c = p := ⟨p - c, by omega⟩
        have hdI : (p : Int) - (c : Int) = (d : Int) := by omega
        have hdN : d < N := by omega
        have hcN : c < N := by omega
        have dN : (d : Int) < (N : Int) := by omega
        have wd : IntKind.i64.wrap (d : Int) = (d : Int) := wrap_small (by omega)
        have cN : (c : Int) < (N : Int) := by omega
        obtain ⟨y, hy⟩ : ∃ y, y = L.getD d e0 := ⟨_, rfl⟩
        obtain ⟨x, hx⟩ : ∃ x, x = L.getD c e0 := ⟨_, rfl⟩
        obtain ⟨y0, y1⟩ := HR.out.cells d (by rw [HLn.out]; omega) hy.symm
        obtain ⟨x0, x1⟩ := HR.out.cells c (by rw [HLn.out]; omega) hx.symm
        obtain ⟨z, hz⟩ : ∃ z, z = cmpZ y.t x.t := ⟨_, rfl⟩
        have hCz := HZ.out y x
        unfold itV at hCz
        rw [← hz] at hCz
        have HCz := Lib.hid hCz
        have HY := Lib.hid hy
        have HX := Lib.hid hx
        have Hc := Lib.hid hc
        have Hd := Lib.hid hd
        have Hsc := Lib.hid hsc
        have Hcr := Lib.hid hcr
        have Hls := Lib.hid hls
        have Hrh := Lib.hid hrh
        have Hp := Lib.hid hp
        clear hy hx hCz hc hd hsc hcr hls hrh hp
        by_cases hxy : y.t < x.t
        · rw [cmpZ_less hxy] at hz
          have hz0 : z < 0 := by omega
          have HXY := Lib.hid hxy
          clear hz hxy
          as_aux_lemma =>
            go_upto_region 35 with fail
            go_still_tail 11, (by kernel_rfl)
            change wpList _ _ _ _ _ wr.drew
            go_wp2_with fail
            refine (HCz.out _).mono ?_
            rintro e w4 ⟨rfl, o4⟩
            have HR4 := Lib.hid (HR.out.same (w' := w4) fun q hq => o4.block q (HR.out.lt q hq).2 (fun c => c))
            have HO4 := Lib.hid ((HO.out.drewN 1).trans o4 (fun _ _ c => c.elim))
            clear o4
            go_wp2
            go_roundw
            case rel =>
              refine ⟨s, c, rfl, rfl, Hls.out, Hsc.out, by have := Hcr.out; have := Hrh.out; omega, HSL.out, .inr fun j hj => ?_, HR4.out, HO4.out⟩
              obtain rfl : j = d := by have := Hd.out; have := Hp.out; omega
              rw [← HY.out, ← HX.out]; exact HXY.out
            case measure => simp only [intOf]; have := Hsc.out; have := Hcr.out; omega
        · have hz0 : 0 ≤ z := by rw [hz]; exact cmpZ_not hxy
          have hz1 : (!decide (z < 0)) = true := by rw [decide_eq_false (by omega)]; rfl
          have HXY := Lib.hid (Int.not_lt.1 hxy)
          clear hz hxy
          as_aux_lemma =>
            go_upto_region 35 with fail
            go_still_tail 11, (by kernel_rfl)
            change wpList _ _ _ _ _ wr.drew
            go_wp2_with fail
            refine (HCz.out _).mono ?_
            rintro e w4 ⟨rfl, o4⟩
            have HR4 := Lib.hid (HR.out.same (w' := w4) fun q hq => o4.block q (HR.out.lt q hq).2 (fun c => c))
            have HO4 := Lib.hid ((HO.out.drewN 1).trans o4 (fun _ _ c => c.elim))
            clear o4
            go_wp2
            go_roundw
            case rel =>
              refine ⟨c + 1, r, by go_num, rfl, by have := Hls.out; have := Hsc.out; omega, Hcr.out, Hrh.out, .inr fun i j hi hj => ?_, HSR.out, HR4.out, HO4.out⟩
              obtain rfl : i = c := by omega
              obtain rfl : j = d := by have := Hd.out; have := Hp.out; omega
              rw [← HY.out, ← HX.out]; exact HXY.out
            case measure => simp only [intOf]; have := Hsc.out; have := Hcr.out; omega
      · obtain rfl : s = r := by omega
        have hd : decide ((s : Int) < (s : Int)) = false := by simp
        obtain ⟨en, hen⟩ : ∃ en, en + s = mid + m := ⟨mid + m - s, by omega⟩
        have henI : (nn : Int) - (s : Int) = (en : Int) := by omega
        obtain ⟨U1, U2, V1, V2, eU, eV, l1, l2, l3, l4, h12, h21⟩ := sym_split A U V Q a m b mid lo hi s en HA.out Hm.out HB.out Hmid.out HBn.out hls hrh hen HU.out HV.out HUV.out
          (by
            rcases HSL.out with h | h
            · exact .inl h
            · rcases Nat.eq_zero_or_pos s with h0 | h0
              · exact .inl (by omega)
              · exact .inr (by rw [← HL.out]; exact h (s - 1) en (by omega) (by have := Hnn.out; omega)))
          (by
            rcases HSR.out with h | h
            · exact .inl h
            · rcases Nat.eq_zero_or_pos en with h0 | h0
              · exact .inl (by omega)
              · exact .inr (by rw [← HL.out]; exact h (en - 1) (by have := Hnn.out; omega)))
        have HeU := Lib.hid eU
        have HeV := Lib.hid eV
        have H12 := Lib.hid h12
        have H21 := Lib.hid h21
        have hmen : en ≤ b := by have := congrArg List.length eV; rw [List.length_append] at this; have := HB.out; omega
        have hsm : s ≤ m := by have := congrArg List.length eU; rw [List.length_append] at this; have := Hm.out; omega
        have hme : m ≤ en := by omega
        have has : a ≤ s := by omega
        have Hl1 := Lib.hid l1
        have Hl2 := Lib.hid l2
        have Hl3 := Lib.hid l3
        have Hl4 := Lib.hid l4
        have HRa : Hid (EtOwn wr B (some ⟨g, 0, none⟩) cap ((A ++ U1) ++ (U2 ++ (V1 ++ (V2 ++ Q))))) := Lib.hid (by
          have h := HR.out
          rw [HL.out, eU, eV] at h
          simpa using h)
        clear eU eV h12 h21 l1 l2 l3 l4 hls hrh hsr hge hen hp
        go_upto_region 38 with fail
        go_cut [24] (fun s24 wx => wr = wx ∧ s24 = .int .i64 en)
        case first =>
          as_aux_lemma =>
            go_wp2_with fail
            go_meet
            exact ⟨rfl, rfl⟩
        case rest =>
          obtain ⟨rfl, rfl⟩ := hcut
          (rename ∀ (a : Act) (w : World), Code.wp _ _ _ a w → _ => hK)
          (refine hK _ _ ?_)
          clear hK
          apply wp_seq_k
          intro _ _
          go_cut [24] (fun s24 wx => s24 = .int .i64 en ∧ CutAt (A ++ (U1 ++ (V1 ++ (U2 ++ (V2 ++ Q))))) g cap B w wx)
          case first =>
            by_cases hc : s < m ∧ m < en
            · have c1 : (s : Int) < (m : Int) := by omega
              have c2 : (m : Int) < (en : Int) := by omega
              have hu : U2.length + s = m := by have := congrArg List.length HeU.out; rw [List.length_append] at this; have := Hm.out; have := Hl1.out; omega
              have hRo := rotate_any (A ++ U1) U2 V1 (V2 ++ Q) g cap B (.func (.func 34) #[] #[]) wr N s m en (by rw [HN.out, HeU.out, HeV.out]; simp only [List.length_append]; omega) (by rw [List.length_append]; have := HA.out; have := Hl1.out; omega) (by rw [List.length_append]; have := HA.out; have := Hl1.out; omega)
                (by rw [List.length_append]; have := HA.out; have := Hl1.out; have := Hl2.out; omega) (by omega) (by have := Hl2.out; omega) h100 HRa.out
              have HRo := Lib.hid hRo
              clear hRo hc hu
              as_aux_lemma =>
                go_wp2_with fail
                refine HRo.out.mono ?_
                rintro e w5 ⟨rfl, hr5, ho5⟩
                have HR5 := Lib.hid hr5
                have HO5 := Lib.hid ho5
                clear hr5 ho5
                go_wp2_with fail
                go_meet
                exact ⟨rfl, by have := HR5.out; simpa using this, HO.out.trans HO5.out (fun _ _ c => c)⟩
            · have hid : U2 ++ V1 = V1 ++ U2 := by
                have hu : U2.length + s = m := by have := congrArg List.length HeU.out; rw [List.length_append] at this; have := Hm.out; have := Hl1.out; omega
                rcases Nat.lt_or_ge s m with c | c
                · obtain rfl : V1 = [] := List.eq_nil_of_length_eq_zero (by have := Hl2.out; omega)
                  simp
                · obtain rfl : U2 = [] := List.eq_nil_of_length_eq_zero (by omega)
                  simp
              have hRb : EtOwn wr B (some ⟨g, 0, none⟩) cap (A ++ (U1 ++ (V1 ++ (U2 ++ (V2 ++ Q))))) := by
                have h := HRa.out
                have e : (A ++ U1) ++ (U2 ++ (V1 ++ (V2 ++ Q))) = A ++ (U1 ++ (V1 ++ (U2 ++ (V2 ++ Q)))) := by
                  have := congrArg (fun t => (A ++ U1) ++ (t ++ (V2 ++ Q))) hid
                  simpa using this
                rw [e] at h; exact h
              have HRb := Lib.hid hRb
              clear hRb hid
              rcases Nat.lt_or_ge s m with c | c
              · have c1 : (s : Int) < (m : Int) := by omega
                have c2 : decide ((m : Int) < (en : Int)) = false := decide_eq_false (by omega)
                have c3 : decide (m < en) = false := decide_eq_false (by omega)
                clear hc
                as_aux_lemma =>
                  go_wp2_with fail
                  go_meet
                  exact ⟨rfl, HRb.out, HO.out⟩
              · have c2 : decide ((s : Int) < (m : Int)) = false := decide_eq_false (by omega)
                have c3 : decide (s < m) = false := decide_eq_false (by omega)
                clear hc
                as_aux_lemma =>
                  go_wp2_with fail
                  go_meet
                  exact ⟨rfl, HRb.out, HO.out⟩
          case rest =>
            obtain ⟨rfl, hrc, hoc⟩ := hcut
            have HRc := Lib.hid hrc
            have HOc := Lib.hid hoc
            clear hrc hoc HRa
            have hsU : U1.Pairwise Lt := by have := HU.out; rw [HeU.out] at this; exact (List.pairwise_append.1 this).1
            have hsV : V1.Pairwise Lt := by have := HV.out; rw [HeV.out] at this; exact (List.pairwise_append.1 this).1
            have HsU := Lib.hid hsU
            have HsV := Lib.hid hsV
            clear hsU hsV
            (rename ∀ (a : Act) (w : World), Code.wp _ _ _ a w → _ => hK)
            (refine hK _ _ ?_)
            clear hK
            apply wp_seq_k
            intro _ _
            go_cut [24] (fun s24 wx => s24 = .int .i64 en ∧ ∃ W1, W1.Perm (U1 ++ V1) ∧ W1.Pairwise Lt ∧ CutAt (A ++ (W1 ++ (U2 ++ (V2 ++ Q)))) g cap B w wx)
            case first =>
              by_cases hc : a < s ∧ s < mid
              · have c1 : (a : Int) < (s : Int) := by omega
                have c2 : (s : Int) < (mid : Int) := by omega
                have hS := HIH.out A U1 V1 (U2 ++ (V2 ++ Q)) g cap B wc N a s mid (by rw [HN.out, HeU.out, HeV.out]; simp only [List.length_append]; omega) HA.out (by have := Hl1.out; omega) (by have := Hl1.out; have := Hl3.out; omega) (by have := Hl1.out; omega) (by have := Hl1.out; have := Hl3.out; omega)
                  HsU.out HsV.out (fun x hx y hy => HUV.out x (by rw [HeU.out]; exact List.mem_append_left _ hx) y (by rw [HeV.out]; exact List.mem_append_left _ hy)) h100 HRc.out (by have := Hl3.out; have := Hn.out; have := Hm.out; have := HB.out; omega)
                unfold fvK at hS
                have HS := Lib.hid hS
                clear hS hc
                as_aux_lemma =>
                  go_wp2_with fail
                  refine HS.out.mono ?_
                  rintro e w5 ⟨W1, rfl, hp5, hs5, hr5, ho5⟩
                  have HP5 := Lib.hid hp5
                  have HS5 := Lib.hid hs5
                  have HR5 := Lib.hid hr5
                  have HO5 := Lib.hid ho5
                  clear hp5 hs5 hr5 ho5
                  go_wp2_with fail
                  go_meet
                  exact ⟨rfl, W1, HP5.out, HS5.out, HR5.out, HOc.out.trans HO5.out (fun _ _ c => c)⟩
              · have hW : (U1 ++ V1).Pairwise Lt := by
                  rcases Nat.lt_or_ge a s with c | c
                  · obtain rfl : V1 = [] := List.eq_nil_of_length_eq_zero (by have := Hl1.out; have := Hl3.out; omega)
                    rw [List.append_nil]; exact HsU.out
                  · obtain rfl : U1 = [] := List.eq_nil_of_length_eq_zero (by have := Hl1.out; omega)
                    exact HsV.out
                have HW := Lib.hid hW
                have HRd : Hid (EtOwn wc B (some ⟨g, 0, none⟩) cap (A ++ ((U1 ++ V1) ++ (U2 ++ (V2 ++ Q))))) := Lib.hid (by have := HRc.out; simpa using this)
                clear hW
                rcases Nat.lt_or_ge a s with c | c
                · have c1 : (a : Int) < (s : Int) := by omega
                  have c2 : decide ((s : Int) < (mid : Int)) = false := decide_eq_false (by omega)
                  have c3 : decide (s < mid) = false := decide_eq_false (by omega)
                  clear hc
                  as_aux_lemma =>
                    go_wp2_with fail
                    go_meet
                    exact ⟨rfl, _, List.Perm.refl _, HW.out, HRd.out, HOc.out⟩
                · have c2 : decide ((a : Int) < (s : Int)) = false := decide_eq_false (by omega)
                  have c3 : decide (a < s) = false := decide_eq_false (by omega)
                  clear hc
                  as_aux_lemma =>
                    go_wp2_with fail
                    go_meet
                    exact ⟨rfl, _, List.Perm.refl _, HW.out, HRd.out, HOc.out⟩
            case rest =>
              obtain ⟨rfl, W1, hp1, hs1, hrd, hod⟩ := hcut
              have HRd := Lib.hid hrd
              have HOd := Lib.hid hod
              have HP1 := Lib.hid hp1
              have HS1 := Lib.hid hs1
              have hl1 : W1.length + a = mid := by rw [hp1.length_eq, List.length_append]; have := Hl3.out; omega
              have HW1 := Lib.hid hl1
              have hsU2 : U2.Pairwise Lt := by have := HU.out; rw [HeU.out] at this; exact (List.pairwise_append.1 this).2.1
              have hsV2 : V2.Pairwise Lt := by have := HV.out; rw [HeV.out] at this; exact (List.pairwise_append.1 this).2.1
              have HsU2 := Lib.hid hsU2
              have HsV2 := Lib.hid hsV2
              have hfin : ∀ (w6 : World) (W2 : List Ev), W2.Perm (U2 ++ V2) → W2.Pairwise Lt → EtOwn w6 B (some ⟨g, 0, none⟩) cap (A ++ (W1 ++ (W2 ++ Q))) → Only w w6 (fun k => k = g) → SymRes A U V Q g cap B w (.returned (.tuple #[])) w6 := fun w6 W2 p2 s2 r2 o2 => by
                have h := merge_join (R := Lt) (by have := HU.out; rw [HeU.out] at this; exact this) (by have := HV.out; rw [HeV.out] at this; exact this) H12.out H21.out HP1.out HS1.out p2 s2
                exact ⟨W1 ++ W2, rfl, by rw [HeU.out, HeV.out]; exact h.1, h.2, by simpa using r2, o2⟩
              have HFin := Lib.hid hfin
              have hv2 : V2.length + en = b := by have := congrArg List.length HeV.out; rw [List.length_append] at this; have := HB.out; have := Hl2.out; omega
              have hu2 : U2.length + mid = en := Hl4.out
              clear hrd hod hp1 hs1 hl1 hsU2 hsV2 hfin
              by_cases hc : mid < en ∧ en < b
              · have c1 : (mid : Int) < (en : Int) := by omega
                have c2 : (en : Int) < (b : Int) := by omega
                have hS := HIH.out (A ++ W1) U2 V2 Q g cap B wc N mid en b (by rw [HN.out, HeU.out, HeV.out]; have := HP1.out.length_eq; simp only [List.length_append] at this ⊢; omega) (by rw [List.length_append]; have := HA.out; have := HW1.out; omega) (by omega) (by omega) (by omega) (by omega)
                  HsU2.out HsV2.out (fun x hx y hy => HUV.out x (by rw [HeU.out]; exact List.mem_append_right _ hx) y (by rw [HeV.out]; exact List.mem_append_right _ hy)) h100 (by have := HRd.out; simpa using this) (by have := Hn.out; have := Hm.out; have := HB.out; omega)
                unfold fvK at hS
                have HS := Lib.hid hS
                clear hS hc hv2 hu2
                as_aux_lemma =>
                  go_wp2_with fail
                  refine HS.out.mono ?_
                  rintro e w5 ⟨W2, rfl, hp5, hs5, hr5, ho5⟩
                  have HF := Lib.hid (HFin.out w5 W2 hp5 hs5 (by simpa using hr5) (HOd.out.trans ho5 (fun _ _ c => c)))
                  clear hp5 hs5 hr5 ho5
                  go_wp2_with fail
                  go_end0
                  exact HF.out
              · have hW : (U2 ++ V2).Pairwise Lt := by
                  rcases Nat.lt_or_ge mid en with c | c
                  · obtain rfl : V2 = [] := List.eq_nil_of_length_eq_zero (by omega)
                    rw [List.append_nil]; exact HsU2.out
                  · obtain rfl : U2 = [] := List.eq_nil_of_length_eq_zero (by omega)
                    exact HsV2.out
                have HF := Lib.hid (HFin.out wc (U2 ++ V2) (List.Perm.refl _) hW (by have := HRd.out; simpa using this) HOd.out)
                clear hW
                rcases Nat.lt_or_ge mid en with c | c
                · have c1 : (mid : Int) < (en : Int) := by omega
                  have c2 : decide ((en : Int) < (b : Int)) = false := decide_eq_false (by omega)
                  have c3 : decide (en < b) = false := decide_eq_false (by omega)
                  clear hc hv2 hu2
                  as_aux_lemma =>
                    go_wp2_with fail
                    go_end0
                    exact HF.out
                · have c2 : decide ((mid : Int) < (en : Int)) = false := decide_eq_false (by omega)
                  have c3 : decide (mid < en) = false := decide_eq_false (by omega)
                  clear hc hv2 hu2
                  as_aux_lemma =>
                    go_wp2_with fail
                    go_end0
                    exact HF.out
end Go.Proofs.YtienepcknafddaaDoor
end

section
set_option linter.unusedVariables false
set_option linter.unusedSimpArgs false
namespace Go.Proofs.YtienepcknafddaaDoor
open Go SimPlain HeapPlain SymPlain

theorem sym_any (n : Nat) : SymAt n := by
  induction n with
  | zero => intro A U V Q g cap B w N a m b _ _ _ _ hu _ _ _ _ _ _ hn; omega
  | succ n ih =>
    intro A U V Q g cap B w N a m b hN ha hm hb hu hv hU hV hUV h100 hrow hn
    rcases Nat.lt_or_ge U.length 2 with h1 | h1
    · obtain ⟨u, rfl⟩ := List.length_eq_one_iff.1 (show U.length = 1 by omega)
      exact sym_left A u V Q g cap B w N a m b hN ha (by simpa using hm) hb hV (fun y hy => hUV u (by simp) y hy) h100 hrow
    · rcases Nat.lt_or_ge V.length 2 with h2 | h2
      · obtain ⟨v, rfl⟩ := List.length_eq_one_iff.1 (show V.length = 1 by omega)
        exact sym_right A U v Q g cap B w N a m b hN ha hm (by simpa using hb) h1 hU (fun y hy => hUV y hy v (by simp)) h100 hrow
      · exact sym_mid n ih A U V Q g cap B w N a m b hN ha hm hb h1 h2 hU hV hUV h100 hrow hn
end Go.Proofs.YtienepcknafddaaDoor
end

section
set_option linter.unusedVariables false
set_option linter.unusedSimpArgs false
namespace SymPlain
variable {α : Type} {R : α → α → Prop}

/-- the stretch from s up to e is the like stretch of the first list, sorted -/
structure Seg (R : α → α → Prop) (l0 l : List α) (s e : Nat) : Prop where
  perm : ((l.drop s).take (e - s)).Perm ((l0.drop s).take (e - s))
  sorted : ((l.drop s).take (e - s)).Pairwise R
theorem Seg.none {l0 l : List α} {s e : Nat} (h : e ≤ s ∨ l.length ≤ s) (hl : l.length = l0.length) : Seg R l0 l s e := by
  have e1 : ∀ k : List α, k.length = l.length → (k.drop s).take (e - s) = [] := fun k hk => by
    apply List.eq_nil_of_length_eq_zero
    rw [List.length_take, List.length_drop]; omega
  exact ⟨by rw [e1 l rfl, e1 l0 hl.symm], by rw [e1 l rfl]; exact List.Pairwise.nil⟩
theorem Seg.full {l0 l : List α} (h : Seg R l0 l 0 l.length) (hl : l.length = l0.length) : l.Perm l0 ∧ l.Pairwise R := by
  obtain ⟨p, s⟩ := h
  rw [List.drop_zero, List.drop_zero, Nat.sub_zero, List.take_length] at p
  rw [List.drop_zero, Nat.sub_zero, List.take_length] at s
  rw [hl, List.take_length] at p
  exact ⟨p, s⟩
/-- the list cut in three -/
theorem cut3 (l : List α) {a b : Nat} (h1 : a ≤ b) (h2 : b ≤ l.length) : l = l.take a ++ ((l.drop a).take (b - a) ++ l.drop b) ∧ (l.take a).length = a ∧ ((l.drop a).take (b - a)).length = b - a := by
  refine ⟨?_, by rw [List.length_take]; omega, by rw [List.length_take, List.length_drop]; omega⟩
  have e2 : (l.drop a).take (b - a) ++ l.drop b = l.drop a := by
    have : l.drop b = (l.drop a).drop (b - a) := by rw [List.drop_drop]; congr 1; omega
    rw [this, List.take_append_drop]
  rw [e2, List.take_append_drop]
theorem stretch_new {l W : List α} {a b : Nat} (h1 : a ≤ b) (h2 : b ≤ l.length) (hW : W.length = b - a) : ((l.take a ++ (W ++ l.drop b)).drop a).take (b - a) = W := by
  have c2 : (l.take a).length = a := by rw [List.length_take]; omega
  rw [List.drop_append_of_le_length (by omega), List.drop_of_length_le (by omega), List.nil_append, List.take_append_of_le_length (by omega), List.take_of_length_le (by omega)]
theorem stretch_old {l W : List α} {a b s e : Nat} (h1 : a ≤ b) (h2 : b ≤ l.length) (hW : W.length = b - a) (hd : e ≤ a ∨ b ≤ s) : ((l.take a ++ (W ++ l.drop b)).drop s).take (e - s) = (l.drop s).take (e - s) := by
  have c2 : (l.take a).length = a := by rw [List.length_take]; omega
  apply List.ext_getElem?
  intro j
  rcases Nat.lt_or_ge j (e - s) with c | c
  · rw [List.getElem?_take_of_lt c, List.getElem?_take_of_lt c, List.getElem?_drop, List.getElem?_drop]
    rcases hd with h | h
    · rw [List.getElem?_append_left (by omega), List.getElem?_take_of_lt (by omega)]
    · rw [List.getElem?_append_right (by omega), List.getElem?_append_right (by omega), List.getElem?_drop]
      congr 1; omega
  · rw [List.getElem?_eq_none (by rw [List.length_take]; omega), List.getElem?_eq_none (by rw [List.length_take]; omega)]
theorem turned_length {l W : List α} {a b : Nat} (h1 : a ≤ b) (h2 : b ≤ l.length) (hW : W.length = b - a) : (l.take a ++ (W ++ l.drop b)).length = l.length := by
  simp only [List.length_append, List.length_take, List.length_drop]; omega
theorem Seg.old {l0 l W : List α} {a b s e : Nat} (h : Seg R l0 l s e) (h1 : a ≤ b) (h2 : b ≤ l.length) (hW : W.length = b - a) (hd : e ≤ a ∨ b ≤ s) : Seg R l0 (l.take a ++ (W ++ l.drop b)) s e := by
  have e1 := stretch_old (e := e) h1 h2 hW hd
  exact ⟨by rw [e1]; exact h.perm, by rw [e1]; exact h.sorted⟩
theorem Seg.new {l0 l W : List α} {a b : Nat} (h1 : a ≤ b) (h2 : b ≤ l.length) (hp : W.Perm ((l0.drop a).take (b - a))) (hs : W.Pairwise R) (hl : l.length = l0.length) : Seg R l0 (l.take a ++ (W ++ l.drop b)) a b := by
  have hW : W.length = b - a := by rw [hp.length_eq, List.length_take, List.length_drop]; omega
  have e1 := stretch_new h1 h2 hW
  exact ⟨by rw [e1]; exact hp, by rw [e1]; exact hs⟩
/-- a stretch is two stretches -/
theorem stretch_two (l : List α) {a m b : Nat} (h1 : a ≤ m) (h2 : m ≤ b) : (l.drop a).take (b - a) = (l.drop a).take (m - a) ++ (l.drop m).take (b - m) := by
  have e1 : b - a = (m - a) + (b - m) := by omega
  rw [e1, List.take_add, List.drop_drop, show a + (m - a) = m by omega]
/-- two stretches of the first list: whoever is in the one came ahead of whoever is in the other -/
theorem seg_bef {Q : α → α → Prop} {l0 l : List α} (hQ : l0.Pairwise Q) {a m b : Nat} (h1 : a ≤ m) (h2 : m ≤ b) (hU : Seg R l0 l a m) (hV : Seg R l0 l m b) : ∀ x ∈ (l.drop a).take (m - a), ∀ y ∈ (l.drop m).take (b - m), Q x y := by
  intro x hx y hy
  have hx' := hU.perm.mem_iff.1 hx
  have hy' := hV.perm.mem_iff.1 hy
  have h : ((l0.drop a).take (b - a)).Pairwise Q := (hQ.sublist (List.drop_sublist _ _)).sublist (List.take_sublist _ _)
  rw [stretch_two l0 h1 h2] at h
  exact (List.pairwise_append.1 h).2.2 x hx' y hy'
end SymPlain
end
