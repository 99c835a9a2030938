/- WALKS: the document's Best, Always. -/
import Derived.Test.YtomgcfjdmoefgaaDoorRefCoins
import Derived.Deep.RegionWith
namespace Go.Proofs.YtomgcfjdmoefgaaDoor
open Go Go.RowKit CoinsPlain

set_option maxRecDepth 100000 in
set_option maxHeartbeats 2000000 in
theorem rbest_any (c : List Int) (a : Option Addr) (cap : Nat) (S0 : Nat) (w : World) (hx : Ints w a c) (hu : Up c) (hsm : ∀ x ∈ c, x ≤ 60) (hl : c.length ≤ 6) (h1 : S0 ≤ 300) :
    Calls Tryd.prog 23 #[.slice a c.length cap, .int .i64 S0] w fun e w' => NewInts 3 (bst c c.length S0) w e w' := by
  have hok := hu.ok
  have hmk := fun w => run_make_row' (P := Tryd.prog) 22 3 (.int .i64 0) 8 Tryd.underlying22 (by kernel_rfl) rfl .i64 .i64 c.length (by omega) (by omega) w
  have HF := Lib.hid (rfewest_any c a cap S0 w hx hok hsm hl h1)
  go_enter Tryd.func23, Tryd.ntmps23
  go_wp2_with fail
  refine HF.out.mono ?_
  rintro e w1 ⟨g, rfl, hg, hrow, hbel⟩
  rw [fewL_length]
  have hgl := hrow.lt
  go_wp2
  go_loopw [1, 7] (fun s i wr => ∃ (sc : Nat) (ic : Int) (tail : List Int), s = .int .i64 sc ∧ i = .int .i64 ic ∧ -1 ≤ ic ∧ ic < c.length ∧ sc ≤ S0 ∧
      Row wr g 3 (fewL c S0) ∧ Row wr w1.heap.size 3 (List.replicate (ic + 1).toNat 0 ++ tail) ∧ (ic + 1).toNat + tail.length = c.length ∧ bst c c.length S0 = bst c (ic + 1).toNat sc ++ tail ∧ Below w.heap.size w wr)
    (fun _ i _ => (intOf i + 1).toNat)
  case atStart =>
    have e : ((c.length : Int) - 1 + 1).toNat = c.length := by omega
    refine ⟨S0, _, [], rfl, rfl, by omega, by omega, by omega, hrow.alloc _, ?_, ?_, ?_, hbel.alloc (by have := hbel.size; omega) _⟩
    · rw [e]; simpa using Row.made w1 3 c.length
    · simp
    · rw [e]; simp
  case round =>
    obtain ⟨sc, ic, tail, rfl, rfl, i1, i2, hsc, hfew, hout, htl, hbst, hbel1⟩ := hrel
    have Hbst := Lib.hid hbst
    have Htl := Lib.hid htl
    clear hbst htl
    rcases Int.lt_or_le ic 0 with hi | hi
    · have hn : ic = -1 := by omega
      subst hn
      go_wp2
      go_ret
      have e3 : ((-1 : Int) + 1).toNat = 0 := by decide
      have hb := Hbst.out
      rw [e3] at hb hout
      simp only [bst, List.nil_append, List.replicate_zero] at hb hout
      exact ⟨w1.heap.size, by rw [bst_length]; rfl, hbel.size, by rw [hb]; exact hout, hbel1⟩
    · obtain ⟨j, rfl⟩ := Int.eq_ofNat_of_zero_le hi
      have hj : j < c.length := by omega
      obtain ⟨b, off, rfl, hcell⟩ := (hx.below hbel1).open (by omega)
      have hcj := hcell j hj
      have hbw : b < w.heap.size := by
        obtain ⟨b', off', h1, h2⟩ := hx.open (by omega)
        have h3 := World.block_lt_of_cell? w _ (h2 j hj)
        have h4 : b = b' := by have := Option.some.inj h1; exact (Addr.mk.inj this).1
        rw [h4]; exact h3
      have nb1 : ¬ b = w1.heap.size := by have := hbel.size; omega
      have nb2 : ¬ w1.heap.size = b := by have := hbel.size; omega
      have hmem : c.getD j 0 ∈ c := Up.mem j hj
      have hn1 := hu.ge1 j hj
      have hn2 := hsm _ hmem
      obtain ⟨V, hV⟩ := Int.eq_ofNat_of_zero_le (show 0 ≤ c.getD j 0 by omega)
      have hus := uses_spec (c := c) (x := c.getD j 0) hn1 sc
      have hmost := fun k hk h => uses_most hok hmem (s := sc) (k := k) hk h
      have hbj : bst c (j + 1) sc = bst c j (sc - uses c (c.getD j 0) sc * (c.getD j 0).toNat) ++ [(uses c (c.getD j 0) sc : Int)] := rfl
      rw [hV] at hcj hn1 hn2 hus hmost hbj
      have eV : ((V : Int)).toNat = V := Int.toNat_natCast V
      rw [eV] at hus hmost hbj
      have ej : ((j : Int) + 1).toNat = j + 1 := by omega
      rw [ej, List.replicate_succ', List.append_assoc] at hout
      have hout : Row wr w1.heap.size 3 (List.replicate j 0 ++ (0 : Int) :: tail) := by simpa using hout
      have hjI : (j : Int) < c.length := by omega
      have hq : (sc : Int) / (V : Int) = ((sc / V : Nat) : Int) := rfl
      have hqm : sc / V * V ≤ sc := Nat.div_mul_le_self sc V
      have hqu : uses c V sc ≤ sc / V := by
        have := hus.1
        exact (Nat.le_div_iff_mul_le (by omega)).2 this
      have hsc0 : F c sc ≤ sc ∧ 0 ≤ F c sc := ⟨F_le_self c sc, F_nonneg hok sc⟩
      have hq300 : sc / V ≤ 300 := Nat.le_trans (Nat.div_le_self _ _) (by omega)
      generalize hK : sc / V = K0 at *
      generalize hU : uses c (V : Int) sc = U at *
      have cS := hfew.cell sc (by rw [fewL_length]; omega)
      rw [fewL_getD c S0 sc hsc] at cS
      have HFew := Lib.hid hfew
      have HOut := Lib.hid hout
      have HB1 := Lib.hid hbel1
      have Hus := Lib.hid hus
      have HMost := Lib.hid hmost
      have HBj := Lib.hid hbj
      have Hej := Lib.hid ej
      have HcV := Lib.hid hV
      generalize hFs : F c sc = Fs at *
      have HFs := Lib.hid hFs
      clear hfew hout hbel1 hus hmost hbj ej hcell hV hmem hK hU hFs eV
      go_wp2
      obtain ⟨w5, hw5⟩ : ∃ w5, w5 = wr := ⟨_, rfl⟩
      subst hw5
      go_loopw [8] (fun kk wx => ∃ k : Nat, kk = .int .i64 k ∧ U ≤ k ∧ k ≤ K0 ∧ k * V ≤ sc ∧ ∃ n, wx = w5.drewN n) (fun kk _ => (intOf kk).toNat)
      case atStart => exact ⟨K0, rfl, hqu, Nat.le_refl _, hqm, 0, rfl⟩
      case round =>
        obtain ⟨k, rfl, hUk, hkK, hkV, n, rfl⟩ := hrel
        have hcell2 := HFew.out.cell (sc - k * V) (by rw [fewL_length]; omega)
        rw [fewL_getD c S0 (sc - k * V) (by omega)] at hcell2
        have hfb : 0 ≤ F c (sc - k * V) ∧ F c (sc - k * V) ≤ 300 := ⟨F_nonneg hok _, by have := F_le_self c (sc - k * V); omega⟩
        have hp : (k : Int) * (V : Int) = ((k * V : Nat) : Int) := by rw [Int.natCast_mul]
        have hkey : F c (sc - k * V) + k = Fs ↔ k = U := by
          constructor
          · intro h
            have := HMost.out k hkV h
            omega
          · intro h
            have := Hus.out.2.1
            rw [h]; exact this
        generalize hP : k * V = P at *
        generalize F c (sc - P) = Fv at *
        have HKey := Lib.hid hkey
        have HP := Lib.hid hP
        clear hkey hP
        by_cases e : k = U
        · have t1 : ((Fv + (k : Int)) != Fs) = false := by rw [bne_eq_false_iff_eq]; exact HKey.out.2 e
          have E := Lib.hid e
          clear e
          have hor : Row (w5.drewN n) w1.heap.size 3 (List.replicate j 0 ++ (0 : Int) :: tail) := HOut.out.drewN n
          have hlen : j < (List.replicate j (0 : Int) ++ (0 : Int) :: tail).length := by simp
          have d2 : w5.cell? ⟨w1.heap.size, j, none⟩ = some (.int .i64 0) := by have := HOut.out.cell j hlen; rw [get_mid0] at this; exact this
          have d3 : w5.frozen? ⟨w1.heap.size, j, none⟩ = false := HOut.out.free j
          have hN : ∀ W, (∃ m, W = w5.drewN m) → Row (W.setCell ⟨w1.heap.size, j, none⟩ (.int .i64 k)) w1.heap.size 3 (List.replicate j 0 ++ (k : Int) :: tail) ∧ Row (W.setCell ⟨w1.heap.size, j, none⟩ (.int .i64 k)) g 3 (fewL c S0) ∧ Below w.heap.size w (W.setCell ⟨w1.heap.size, j, none⟩ (.int .i64 k)) := by
            rintro W ⟨m, rfl⟩
            have h1 := (HOut.out.drewN m).set j (k : Int)
            rw [set_mid0] at h1
            exact ⟨h1, (HFew.out.drewN m).other ⟨w1.heap.size, j, none⟩ (by show g ≠ w1.heap.size; omega) _, (drewN_below HB1.out m).setCell (p := ⟨w1.heap.size, j, none⟩) hbel.size _⟩
          have HN := Lib.hid hN
          clear hN hor hlen
          go_wp2
          go_quiet (fail)
          have HN2 := Lib.hid (HN.out (w5.drewN (n + nq)) ⟨n + nq, rfl⟩)
          go_wp2
          go_roundw
          case rel =>
            have e2 : ((j : Int) - 1 + 1).toNat = j := by omega
            refine ⟨sc - P, _, (k : Int) :: tail, by go_num, rfl, by omega, by omega, by omega, HN2.out.2.1, ?_, ?_, ?_, HN2.out.2.2⟩
            · rw [e2]; exact HN2.out.1
            · have := Htl.out; rw [Hej.out] at this; rw [e2, List.length_cons]; omega
            · have h := Hbst.out
              rw [Hej.out, HBj.out, List.append_assoc] at h
              rw [e2, h, ← HP.out, E.out]; rfl
          case measure => simp only [intOf]; omega
        · have t1 : ((Fv + (k : Int)) != Fs) = true := by rw [bne_iff_ne]; exact fun h => e (HKey.out.1 h)
          have hkU : U < k := by omega
          have hk1 : (k - 1) * V ≤ sc := Nat.le_trans (Nat.mul_le_mul_right _ (by omega)) (by have := HP.out; omega : k * V ≤ sc)
          have Hk1 := Lib.hid hk1
          clear e hk1
          go_wp2
          go_quiet (fail)
          go_wp2
          go_roundw
          case rel => exact ⟨k - 1, by go_num, by omega, by omega, Hk1.out, _, by first | rfl | rw [World.drewN_drewN]⟩
          case measure => simp only [intOf]; omega

theorem alw_unique {c : List Int} {i i' : Bool} {l l' : Nat} (h : AlwOk c i l) (h' : AlwOk c i' l') : i = i' ∧ l = l' := by
  rcases h with ⟨rfl, rfl, h⟩ | ⟨rfl, h1, h2, h3⟩
  · rcases h' with ⟨rfl, rfl, _⟩ | ⟨rfl, k1, k2, k3⟩
    · exact ⟨rfl, rfl⟩
    · have := h l' k1; omega
  · rcases h' with ⟨rfl, rfl, k⟩ | ⟨rfl, k1, k2, k3⟩
    · have := k l h1; omega
    · refine ⟨rfl, ?_⟩
      rcases Nat.lt_trichotomy l l' with d | d | d
      · have := k3 l d; omega
      · exact d
      · have := h3 l' d; omega
def RAlw (c : List Int) (w : World) (e : Ending) (w' : World) : Prop := ∃ is least, AlwOk c is least ∧ e = .returned (.tuple #[.bool is, .int .i64 (least : Nat)]) ∧ Below w.heap.size w w'
set_option maxRecDepth 100000 in
set_option maxHeartbeats 4000000 in
theorem ralways_any (c : List Int) (a : Option Addr) (cap : Nat) (w : World) (hx : Ints w a c) (hf : Fine c) :
    Calls Tryd.prog 20 #[.slice a c.length cap] w fun e w' => RAlw c w e w' := by
  have hl := hf.short
  have hn := hf.up.ne
  have hsm : ∀ x ∈ c, x ≤ 60 := fun x hx => by obtain ⟨i, hi, rfl⟩ := Up.idx hx; exact hf.small i hi
  obtain ⟨b, off, rfl, hcell⟩ := hx.open hn
  have hct := hcell (c.length - 1) (by omega)
  have t1 := hf.up.ge1 (c.length - 1) (by omega)
  have t2 := hf.small (c.length - 1) (by omega)
  clear hcell
  obtain ⟨t, ht⟩ := Int.eq_ofNat_of_zero_le (show 0 ≤ c.getD (c.length - 1) 0 by omega)
  rw [ht] at hct t1 t2
  have Ht := Lib.hid ht
  clear ht
  have fw := rfewest_any c (some ⟨b, off, none⟩) cap (2 * t) w hx hf.up.ok hsm hl (by omega)
  rw [show (((2 * t : Nat) : Int)) = 2 * (t : Int) by omega] at fw
  have FW := Lib.hid fw
  clear fw
  go_enter Tryd.func20, Tryd.ntmps20
  go_wp2_with fail
  refine FW.out.mono ?_
  rintro e w1 ⟨g, rfl, hg, hrow, hbel⟩
  rw [fewL_length]
  have hgl := hrow.lt
  go_wp2
  go_loopw [6] (fun i wr => ∃ k : Nat, k ≤ 2 * t + 1 ∧ i = .int .i64 k ∧ (∀ y : Nat, y < k → G c y = F c y) ∧ Row wr g 3 (fewL c (2 * t)) ∧ Below w.heap.size w wr ∧ g < wr.heap.size)
    (fun i _ => 2 * t + 1 - (intOf i).toNat)
  case atStart => exact ⟨0, Nat.zero_le _, rfl, fun y hy => by omega, hrow, hbel, hgl⟩
  case round =>
    obtain ⟨k, hk, rfl, hall, hrowr, hbelr, hglr⟩ := hrel
    have Hall := Lib.hid hall
    clear hall
    rcases Nat.lt_or_ge k (2 * t + 1) with hlt | hge
    · have hfk := hrowr.cell k (by rw [fewL_length]; exact hlt)
      rw [fewL_getD c (2 * t) k (by omega)] at hfk
      have hGF := G_ge_F hf.up k
      have hG := G_le c hf.up k
      have hF0 := F_nonneg hf.up.ok k
      have hGd : (grd c c.length k).sum = G c k := rfl
      have hsmall : SmallSum (grd c c.length k) := small_of_nonneg _ (grd_nonneg c hf.up.ok.pos _ (Nat.le_refl _) _ (by omega)) (by rw [hGd]; omega)
      have HG := Lib.hid (fun W (hb : Below wr.heap.size wr W) => rgreedy_any c (some ⟨b, off, none⟩) cap k W ((hx.below hbelr).below hb) (fun i hi => hf.up.ge1 i hi) hl (by omega) (by omega))
      have HT : Hid (∀ W g2, Row W g2 3 (grd c c.length k) → Calls Tryd.prog 60 #[.slice (some ⟨g2, 0, none⟩) c.length c.length] W fun e w' => e = .returned (.int .i64 (G c k)) ∧ W = w') := Lib.hid fun W g2 hr => by
        have h := rtotal_any (grd c c.length k) (some ⟨g2, 0, none⟩) c.length W hr.ints hsmall (by rw [grd_length]; omega)
        rw [grd_length, hGd] at h; exact h
      have HRow := Lib.hid hrowr
      have HB := Lib.hid hbelr
      have hgd : (grd c c.length k).length = c.length := grd_length _ _ _
      have HGd := Lib.hid hgd
      generalize hv : F c k = v at *
      generalize hgk : G c k = Gk at *
      have Hv := Lib.hid hv
      have Hgk := Lib.hid hgk
      have t3 : (k : Int) < 2 * (t : Int) + 1 := by omega
      have t4 : (k : Int) ≤ 2 * (t : Int) := by omega
      clear hv hgk hsmall hGd hgd hrowr hbelr hx
      have HD : Hid (∀ w2, Below wr.heap.size wr w2 → w2.cell? ⟨g, k, none⟩ = some (.int .i64 v)) := Lib.hid fun w2 h => (h.cell (p := ⟨g, k, none⟩) hglr).trans hfk
      have hcond : (Gk = v ∨ Gk ≠ v) := Classical.em _
      rcases hcond with e | e
      · have t5 : (Gk != v) = false := by rw [e]; simp
        have E := Lib.hid e
        clear e
        go_wp2
        go_region_with (first | (go_at_call 22; refine (HG.out _ ?_).mono ?_; exact ⟨rfl, rfl, rfl, Nat.le_refl _, fun _ _ => rfl⟩; rintro e w2 ⟨g2, rfl, hg2, hrow2, hb2⟩; have hb2 : Below wr.heap.size wr w2 := ⟨hb2.os, hb2.tape, hb2.output, hb2.size, hb2.block⟩; rw [HGd.out]; have c3 := HD.out w2 hb2; have HR2 := Lib.hid hrow2; have HB2 := Lib.hid hb2; clear hrow2) | (go_at_call 60; refine (HT.out _ _ HR2.out).mono ?_; rintro e w3 ⟨rfl, rfl⟩))
        all_goals
          go_wp2
          go_roundw
          case rel =>
            refine ⟨k + 1, by omega, by go_num, fun y hy => ?_, HRow.out.below HB2.out hglr, HB.out.trans (HB2.out.mono HB.out.size), Nat.lt_of_lt_of_le hglr HB2.out.size⟩
            rcases Nat.lt_or_ge y k with c1 | c1
            · exact Hall.out y c1
            · obtain rfl : y = k := by omega
              rw [Hgk.out, Hv.out]; exact E.out
          case measure => simp only [intOf]; omega
      · have t5 : (Gk != v) = true := by rw [bne_iff_ne]; exact e
        have E := Lib.hid e
        clear e
        go_wp2
        go_region_with (first | (go_at_call 22; refine (HG.out _ ?_).mono ?_; exact ⟨rfl, rfl, rfl, Nat.le_refl _, fun _ _ => rfl⟩; rintro e w2 ⟨g2, rfl, hg2, hrow2, hb2⟩; have hb2 : Below wr.heap.size wr w2 := ⟨hb2.os, hb2.tape, hb2.output, hb2.size, hb2.block⟩; rw [HGd.out]; have c3 := HD.out w2 hb2; have HR2 := Lib.hid hrow2; have HB2 := Lib.hid hb2; clear hrow2) | (go_at_call 60; refine (HT.out _ _ HR2.out).mono ?_; rintro e w3 ⟨rfl, rfl⟩))
        all_goals
          go_wp2
          go_ret2
          refine ⟨false, k, .inr ⟨rfl, by rw [Ht.out]; omega, ?_, Hall.out⟩, rfl, HB.out.trans (HB2.out.mono HB.out.size)⟩
          have := E.out
          rw [Hgk.out, Hv.out]
          omega
    · have hk2 : k = 2 * t + 1 := by omega
      have t3 : ¬ (k : Int) ≤ 2 * (t : Int) := by omega
      have t4 : 2 * (t : Int) < (k : Int) := by omega
      have HB := Lib.hid hbelr
      clear hrowr hbelr
      go_wp2
      go_ret2
      exact ⟨true, 0, .inl ⟨rfl, rfl, fun s hs => Hall.out s (by rw [Ht.out] at hs; omega)⟩, rfl, HB.out⟩
end Go.Proofs.YtomgcfjdmoefgaaDoor
