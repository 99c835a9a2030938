/- WALK: the law SackSays. -/
import Derived.Test.YtomgcfjdmoefgaaDoorRefSack3
import Derived.Test.YtomgcfjdmoefgaaDoorRefSack4
import Derived.Test.YtomgcfjdmoefgaaDoorSackBest2
import Derived.Test.YtomgcfjdmoefgaaDoorSackHalf
import Derived.Test.YtomgcfjdmoefgaaDoorInts
import Derived.Test.YtomgcfjdmoefgaaDoorErr
namespace Go.Proofs.YtomgcfjdmoefgaaDoor
open Go Go.RowKit SackPlain
open SortPlain (asInts asInts_length)

theorem Err0 (w : World) (hg : Handle w) : Calls Tryd.prog 13 #[.nilIface, .int .i64 0] w fun e w' => e = .returned (.bool true) ∧ Below w.heap.size w w' := Error_any 0 0 w hg
theorem Err1 (n : Int) (hn : n ≠ 0) (w : World) (hg : Handle w) : Calls Tryd.prog 13 #[.iface 81 (.int .i64 n), .int .i64 n] w fun e w' => e = .returned (.bool true) ∧ Below w.heap.size w w' := by
  have := Error_any n n w hg
  rw [errV_bad hn] at this
  exact this.mono fun e w' h => ⟨by rw [h.1]; simp, h.2⟩
theorem IntsSame (xs : List Int) (a b : Option Addr) (n cap cap' : Nat) (hn : n = xs.length) (w : World) (hx : Ints w a xs) (hy : Ints w b xs) (hl : xs.length ≤ 9223372036854775807) :
    Calls Tryd.prog 25 #[.slice a n cap, .slice b n cap'] w fun e w' => e = .returned (.bool true) ∧ ∃ n, w' = w.drewN n := by
  subst hn
  have h := Ints_any xs xs a b cap cap' w hx hy hl
  have : sameB xs xs = true := by unfold sameB; simp
  rw [this] at h; exact h
theorem IntsNone (w : World) : Calls Tryd.prog 25 #[.slice none 0 0, .slice none 0 0] w fun e w' => e = .returned (.bool true) ∧ ∃ n, w' = w.drewN n := IntsSame [] none none 0 0 0 rfl w (.inl rfl) (.inl rfl) (by simp)
theorem falls_one {l : List Gd} {o o' : List Nat} (h : GSort.Falls (dearR l) l.length o) (h' : GSort.Falls (dearR l) l.length o') : o = o' := sorted_one (dearR_asym l) (h.perm.trans h'.perm.symm) h.sorted h'.sorted

set_option maxRecDepth 100000 in
set_option maxHeartbeats 4000000 in
theorem SackSays_walk (l : List Gd) (room : Int) (a : Option Addr) (cap : Nat) (w : World) (hx : Goods w a l) (hl : l.length ≤ 9223372036854775807) (hg : Handle w) :
    Calls Tryd.prog 7 #[.slice a l.length cap, .int .i64 room] w fun e w' => e = .returned (.bool true) ∧ Below w.heap.size w w' := by
  have HG := Lib.hid (rgoods_any l room a cap w hx hl)
  have HC := Lib.hid (fun W (hb : Below w.heap.size w W) => CheckG_any l room a cap W (hx.below hb) hl)
  by_cases hc : chkG l room = 0
  · have hf := chkG_fine hc
    obtain ⟨R, rfl⟩ := Int.eq_ofNat_of_zero_le hf.r0
    have hs := hf.ok.short
    have HU := Lib.hid (fun W (hb : Below w.heap.size w W) => rcut_any l R a cap W (hx.below hb) hf.ok hf.r0 hf.r1)
    have HM := Lib.hid (fun W (hb : Below w.heap.size w W) => rMost_any l R a cap W (hx.below hb) hf.ok hf.r0 hf.r1)
    have HH := Lib.hid (fun W (hb : Below w.heap.size w W) => rhalf_any l R a cap W (hx.below hb) hf.ok hf.r0 hf.r1)
    have PU := Lib.hid (fun W (hb : Below w.heap.size w W) => CutG_yes l R a cap W (hx.below hb) hf)
    have PM := Lib.hid (fun W (hb : Below w.heap.size w W) => BestG_yes l R a cap W (hx.below hb) hf)
    have PH := Lib.hid (fun W (hb : Below w.heap.size w W) => HalfG_yes l R a cap W (hx.below hb) hf)
    rw [hc] at HG HC
    rw [errV_ok] at HC
    have Hf := Lib.hid hf
    have Hpos : Hid (∀ i, 0 < wOf l i) := Lib.hid fun i => by have := wv_range hf.ok i; omega
    clear hf hc
    go_enter Tryd.func7, Tryd.ntmps7
    go_wp2_with fail
    refine HG.out.mono ?_
    rintro e w1 ⟨rfl, q1, rfl⟩
    have b1 := drewN_below (Below.refl w.heap.size w) q1
    have hg1 : Handle (w.drewN q1) := hg
    generalize w.drewN q1 = w1 at *
    go_wp2_with fail
    refine (HC.out w1 b1).mono ?_
    rintro e w2 ⟨rfl, b2⟩
    have b02 := b1.trans (b2.mono b1.size)
    have hg2 := hg1.to b2
    go_wp2_with fail
    refine (Err0 w2 hg2).mono ?_
    rintro e w3 ⟨rfl, b3⟩
    have b03 := b02.trans (b3.mono b02.size)
    have hg3 := hg2.to b3
    go_wp2_with fail
    refine (HU.out w3 b03).mono ?_
    rintro e w4 ⟨ord, wh, p, o, rfl, hF, hCut, _, b4⟩
    have HF := Lib.hid hF
    have HCut := Lib.hid hCut
    have b04 := b03.trans (b4.mono b03.size)
    have hg4 := hg3.to b4
    clear hF hCut
    go_wp2_with fail
    refine (HM.out w4 b04).mono ?_
    rintro e w5 ⟨am, cm, rfl, hO, b5⟩
    have HO := Lib.hid hO.ints
    have b05 := b04.trans (b5.mono b04.size)
    have hg5 := hg4.to b5
    clear hO
    go_wp2_with fail
    refine (HH.out w5 b05).mono ?_
    rintro e w6 ⟨one, ord2, wh2, p2, o2, rfl, hOne, hF2, hCut2, b6⟩
    have HOne := Lib.hid hOne
    have HHalf := Lib.hid (cut_half HF.out hF2 hCut2)
    have b06 := b05.trans (b6.mono b05.size)
    have hg6 := hg5.to b6
    clear hOne hF2 hCut2
    obtain ⟨hv, hhv⟩ : ∃ v, max one wh2 = v := ⟨_, rfl⟩
    rw [hhv]
    have Hhv := Lib.hid hhv
    clear hhv
    go_wp2_with fail
    refine (PU.out w6 b06).mono ?_
    rintro e w7 ⟨ord', wh', p', o', rfl, hF', hCut', _, b7⟩
    have b07 := b06.trans (b7.mono b06.size)
    have hg7 := hg6.to b7
    obtain rfl := falls_one HF.out hF'
    obtain ⟨rfl, rfl, rfl⟩ := cut_one (fun i _ => Hpos.out i) HCut.out hCut'
    have e1 : (wh == wh) = true := by simp
    have e2 : (p == p) = true := by simp
    have e3 : (o == o) = true := by simp
    clear hF' hCut'
    go_wp2_with fail
    refine (Err0 w7 hg7).mono ?_
    rintro e w8 ⟨rfl, b8⟩
    have b08 := b07.trans (b8.mono b07.size)
    have hg8 := hg7.to b8
    go_wp2_with fail
    refine (PM.out w8 b08).mono ?_
    rintro e w9 ⟨am', cm', rfl, hI', b9⟩
    have b09 := b08.trans (b9.mono b08.size)
    have hg9 := hg8.to b9
    have hw9 := HO.out.below (((b6.trans (b7.mono b6.size)).trans (b8.mono (b6.trans (b7.mono b6.size)).size)).trans (b9.mono ((b6.trans (b7.mono b6.size)).trans (b8.mono (b6.trans (b7.mono b6.size)).size)).size))
    have hch : (chosen (told l R) l.length).length ≤ 9223372036854775807 := by have := chosen_length (told l R) l.length; omega
    have HSame := Lib.hid (fun W (hb : Below w9.heap.size w9 W) => IntsSame (asInts (chosen (told l R) l.length)) am' am (chosen (told l R) l.length).length cm' cm (asInts_length _).symm W (hI'.below hb) (hw9.below hb) (by rw [asInts_length]; exact hch))
    have e4 : (most l R == most l R) = true := by simp
    clear hI' hw9 hch
    go_wp2_with fail
    refine (Err0 w9 hg9).mono ?_
    rintro e w10 ⟨rfl, b10⟩
    have b010 := b09.trans (b10.mono b09.size)
    have hg10 := hg9.to b10
    go_wp2_with fail
    refine (HSame.out w10 b10).mono ?_
    rintro e w11 ⟨rfl, q11, rfl⟩
    have b011 := drewN_below b010 q11
    have hg11 : Handle (w10.drewN q11) := hg10
    generalize w10.drewN q11 = w11 at *
    go_wp2_with fail
    refine (PH.out w11 b011).mono ?_
    rintro e w12 ⟨ord3, one3, some3, rfl, hF3, hH3, hO3, b12⟩
    have b012 := b011.trans (b12.mono b011.size)
    have hg12 := hg11.to b12
    obtain rfl := falls_one HF.out hF3
    have h1 := one_one HOne.out hO3
    have h2 := half_one (fun i _ => Hpos.out i) HHalf.out hH3
    have hval : max one3 some3 = hv := by rw [← h1, ← h2]; exact Hhv.out
    rw [hval]
    have e5 : (hv == hv) = true := by simp
    clear hF3 hH3 hO3 h1 h2 hval
    go_wp2_with fail
    refine (Err0 w12 hg12).mono ?_
    rintro e w13 ⟨rfl, b13⟩
    have b013 := b012.trans (b13.mono b012.size)
    go_wp2
    go_ret
    exact ⟨by first | rfl | simp, b013⟩
  · have PU := Lib.hid (fun W (hb : Below w.heap.size w W) => CutG_no l room a cap W (hx.below hb) hl hc)
    have PM := Lib.hid (fun W (hb : Below w.heap.size w W) => BestG_no l room a cap W (hx.below hb) hl hc)
    have PH := Lib.hid (fun W (hb : Below w.heap.size w W) => HalfG_no l room a cap W (hx.below hb) hl hc)
    have HE := Lib.hid (Err1 (chkG l room) hc)
    rw [errV_bad hc] at HC
    have hc0 : (chkG l room == 0) = false := by rw [beq_eq_false_iff_ne]; exact hc
    clear hc
    generalize chkG l room = k at *
    go_enter Tryd.func7, Tryd.ntmps7
    go_wp2_with fail
    refine HG.out.mono ?_
    rintro e w1 ⟨rfl, q1, rfl⟩
    have b1 := drewN_below (Below.refl w.heap.size w) q1
    have hg1 : Handle (w.drewN q1) := hg
    generalize w.drewN q1 = w1 at *
    go_wp2_with fail
    refine (HC.out w1 b1).mono ?_
    rintro e w2 ⟨rfl, b2⟩
    have b02 := b1.trans (b2.mono b1.size)
    have hg2 := hg1.to b2
    go_wp2_with fail
    refine (HE.out w2 hg2).mono ?_
    rintro e w3 ⟨rfl, b3⟩
    have b03 := b02.trans (b3.mono b02.size)
    have hg3 := hg2.to b3
    go_wp2_with fail
    refine (PU.out w3 b03).mono ?_
    rintro e w4 ⟨rfl, b4⟩
    have b04 := b03.trans (b4.mono b03.size)
    have hg4 := hg3.to b4
    go_wp2_with fail
    refine (HE.out w4 hg4).mono ?_
    rintro e w5 ⟨rfl, b5⟩
    have b05 := b04.trans (b5.mono b04.size)
    have hg5 := hg4.to b5
    go_wp2_with fail
    refine (PM.out w5 b05).mono ?_
    rintro e w6 ⟨rfl, b6⟩
    have b06 := b05.trans (b6.mono b05.size)
    have hg6 := hg5.to b6
    go_wp2_with fail
    refine (HE.out w6 hg6).mono ?_
    rintro e w7 ⟨rfl, b7⟩
    have b07 := b06.trans (b7.mono b06.size)
    have hg7 := hg6.to b7
    go_wp2_with fail
    refine (IntsNone w7).mono ?_
    rintro e w8 ⟨rfl, q8, rfl⟩
    have b08 := drewN_below b07 q8
    have hg8 : Handle (w7.drewN q8) := hg7
    generalize w7.drewN q8 = w8 at *
    go_wp2_with fail
    refine (PH.out w8 b08).mono ?_
    rintro e w9 ⟨rfl, b9⟩
    have b09 := b08.trans (b9.mono b08.size)
    have hg9 := hg8.to b9
    go_wp2_with fail
    refine (HE.out w9 hg9).mono ?_
    rintro e w10 ⟨rfl, b10⟩
    have b010 := b09.trans (b10.mono b09.size)
    go_wp2
    go_ret
    exact ⟨by first | rfl | simp, b010⟩
end Go.Proofs.YtomgcfjdmoefgaaDoor
