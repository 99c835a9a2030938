/- WALK: the law CoinsSays. -/
import Derived.Test.YtomgcfjdmoefgaaDoorRefCoins2
import Derived.Test.YtomgcfjdmoefgaaDoorErr
import Derived.Test.YtomgcfjdmoefgaaDoorInts
namespace Go.Proofs.YtomgcfjdmoefgaaDoor
open Go Go.RowKit CoinsPlain

theorem Err0 (w : World) (hg : Handle w) : Calls Tryd.prog 13 #[.nilIface, .int .i64 0] w fun e w' => e = .returned (.bool true) ∧ Below w.heap.size w w' := Error_any 0 0 w hg
theorem Err1 (n : Int) (hn : n ≠ 0) (w : World) (hg : Handle w) : Calls Tryd.prog 13 #[.iface 81 (.int .i64 n), .int .i64 n] w fun e w' => e = .returned (.bool true) ∧ Below w.heap.size w w' := by
  have := Error_any n n w hg
  rw [errV_bad hn] at this
  exact this.mono fun e w' h => ⟨by rw [h.1]; simp, h.2⟩
theorem IntsSame (xs : List Int) (a b : Option Addr) (n cap cap' : Nat) (hn : n = xs.length) (w : World) (hx : Ints w a xs) (hy : Ints w b xs) (hl : xs.length ≤ 9223372036854775807) :
    Calls Tryd.prog 25 #[.slice a n cap, .slice b n cap'] w fun e w' => e = .returned (.bool true) ∧ ∃ n, w' = w.drewN n := by
  subst hn
  have h := Ints_any xs xs a b cap cap' w hx hy hl
  have : sameB xs xs = true := by unfold sameB; simp
  rw [this] at h; exact h
theorem IntsNone (w : World) : Calls Tryd.prog 25 #[.slice none 0 0, .slice none 0 0] w fun e w' => e = .returned (.bool true) ∧ ∃ n, w' = w.drewN n := IntsSame [] none none 0 0 0 rfl w (.inl rfl) (.inl rfl) (by simp)

set_option maxRecDepth 100000 in
set_option maxHeartbeats 4000000 in
theorem CoinsSays_walk (c : List Int) (sum : Int) (a : Option Addr) (cap : Nat) (w : World) (hx : Ints w a c) (hl : c.length ≤ 9223372036854775807) (hg : Handle w) :
    Calls Tryd.prog 4 #[.slice a c.length cap, .int .i64 sum] w fun e w' => e = .returned (.bool true) ∧ Below w.heap.size w w' := by
  have HT := Lib.hid (rcoins_any c a cap w hx hl)
  by_cases hc : chk c = 0
  · rw [hc] at HT
    have hf := chk_fine hc
    have Hc := Lib.hid hc
    have Hf := Lib.hid hf
    clear hc hf
    go_enter Tryd.func4, Tryd.ntmps4
    go_wp2_with fail
    refine HT.out.mono ?_
    rintro e w1 ⟨rfl, q, rfl⟩
    have b1 := drewN_below (Below.refl w.heap.size w) q
    have hg1 : Handle (w.drewN q) := hg
    generalize w.drewN q = w1 at *
    go_wp2_with fail
    refine (check_yes c a cap w1 (hx.below b1) hl Hc.out).mono ?_
    rintro e w2 ⟨rfl, rfl⟩
    go_wp2_with fail
    refine (Err0 w1 hg1).mono ?_
    rintro e w2 ⟨rfl, b2⟩
    have b02 := b1.trans (b2.mono b1.size)
    have hg2 := hg1.to b2
    go_wp2_with fail
    refine (ralways_any c a cap w2 (hx.below b02) Hf.out).mono ?_
    rintro e w3 ⟨is, least, hA, rfl, b3⟩
    have b03 := b02.trans (b3.mono b02.size)
    have hg3 := hg2.to b3
    go_wp2_with fail
    refine (Always_yes c a cap w3 (hx.below b03) Hc.out).mono ?_
    rintro e w4 ⟨is', least', hA', rfl, b4⟩
    obtain ⟨rfl, rfl⟩ := alw_unique hA hA'
    have b04 := b03.trans (b4.mono b03.size)
    have hg4 := hg3.to b4
    clear hA hA'
    go_wp2_with fail
    refine (Err0 w4 hg4).mono ?_
    rintro e w5 ⟨rfl, b5⟩
    have b05 := b04.trans (b5.mono b04.size)
    have hg5 := hg4.to b5
    have e1 : (is == is) = true := by simp
    have e2 : ((least : Int) == least) = true := by simp
    by_cases hs : bothC c sum = 0
    · obtain ⟨_, s1, s2⟩ := both_fine hs
      have hn := Hf.out.up.ge1
      have h6 := Hf.out.short
      have hsm : ∀ x ∈ c, x ≤ 60 := fun x hx => by obtain ⟨i, hi, rfl⟩ := Up.idx hx; exact Hf.out.small i hi
      obtain ⟨S, rfl⟩ := Int.eq_ofNat_of_zero_le s1
      have HGy := Lib.hid (fun W hb => Greedy_yes c a cap S W (hx.below hb) hs)
      have HBy := Lib.hid (fun W hb => Best_yes c a cap S W (hx.below hb) hs)
      have HG := Lib.hid (fun W hb => rgreedy_any c a cap S W (hx.below hb) hn h6 s1 s2)
      have HBr := Lib.hid (fun W hb => rbest_any c a cap S W (hx.below hb) Hf.out.up hsm h6 (by omega))
      clear hs hn h6 hsm
      go_wp2_with fail
      refine (HG.out w5 b05).mono ?_
      rintro e w6 ⟨g6, rfl, hg6, hr6, b6⟩
      have b06 := b05.trans (b6.mono b05.size)
      have hh6 := hg5.to b6
      have HR6 := Lib.hid hr6
      clear hr6
      rw [grd_length]
      go_wp2_with fail
      refine (HBr.out w6 b06).mono ?_
      rintro e w7 ⟨g7, rfl, hg7, hr7, b7⟩
      have b07 := b06.trans (b7.mono b06.size)
      have hh7 := hh6.to b7
      have HR7 := Lib.hid hr7
      clear hr7
      rw [bst_length]
      go_wp2_with fail
      refine (HGy.out w7 b07).mono ?_
      rintro e w8 ⟨g8, rfl, hg8, hr8, b8⟩
      have b08 := b07.trans (b8.mono b07.size)
      have hh8 := hh7.to b8
      have HI1 := Lib.hid (fun W hb => IntsSame (grd c c.length S) (some ⟨g8, 0, none⟩) (some ⟨g6, 0, none⟩) c.length c.length c.length (grd_length _ _ _).symm W (hr8.ints.below hb) ((((HR6.out.below b7 HR6.out.lt).below b8 (Nat.lt_of_lt_of_le HR6.out.lt b7.size))).ints.below hb) (by rw [grd_length]; exact hl))
      have HR7' := Lib.hid (HR7.out.below b8 HR7.out.lt)
      clear hr8
      rw [grd_length]
      go_wp2_with fail
      refine (Err0 w8 hh8).mono ?_
      rintro e w9 ⟨rfl, b9⟩
      have b09 := b08.trans (b9.mono b08.size)
      have hh9 := hh8.to b9
      go_wp2_with fail
      refine (HI1.out w9 b9).mono ?_
      rintro e w10 ⟨rfl, q10, rfl⟩
      have HR7'' := Lib.hid ((HR7'.out.below b9 HR7'.out.lt).drewN q10)
      have b0a := drewN_below b09 q10
      have hh10 : Handle (w9.drewN q10) := hh9
      generalize w9.drewN q10 = w10 at *
      go_wp2_with fail
      refine (HBy.out w10 b0a).mono ?_
      rintro e w11 ⟨g11, rfl, hg11, hr11, b11⟩
      have b0b := b0a.trans (b11.mono b0a.size)
      have hh11 := hh10.to b11
      rw [Int.toNat_natCast] at hr11 ⊢
      have HI2 := Lib.hid (fun W hb => IntsSame (bst c c.length S) (some ⟨g11, 0, none⟩) (some ⟨g7, 0, none⟩) c.length c.length c.length (bst_length _ _ _).symm W (hr11.ints.below hb) ((HR7''.out.below b11 HR7''.out.lt).ints.below hb) (by rw [bst_length]; exact hl))
      clear hr11
      rw [bst_length]
      go_wp2_with fail
      refine (Err0 w11 hh11).mono ?_
      rintro e w12 ⟨rfl, b12⟩
      have b0c := b0b.trans (b12.mono b0b.size)
      go_wp2_with fail
      refine (HI2.out w12 b12).mono ?_
      rintro e w13 ⟨rfl, q13, rfl⟩
      have b0d := drewN_below b0c q13
      go_wp2
      go_ret
      exact ⟨rfl, b0d⟩
    · have h1 : bothC c sum = 1 := by
        have hc := Hc.out
        unfold bothC at hs ⊢
        rw [if_neg (by omega)] at hs ⊢
        split at hs <;> simp_all
      have hr : sum < 0 ∨ 300 < sum := by
        have hc := Hc.out
        unfold bothC at hs
        rw [if_neg (by omega)] at hs
        split at hs
        · assumption
        · exact absurd rfl hs
      have HGn := Lib.hid (fun W hb => Greedy_no c a cap sum W (hx.below hb) hl hs)
      have HBn := Lib.hid (fun W hb => Best_no c a cap sum W (hx.below hb) hl hs)
      rw [h1] at HGn HBn
      clear hs h1
      rcases hr with hr | hr
      all_goals
        go_wp2_with fail
        refine (HGn.out w5 b05).mono ?_
        rintro e w6 ⟨rfl, rfl⟩
        go_wp2_with fail
        refine (Err1 1 (by decide) w5 hg5).mono ?_
        rintro e w6 ⟨rfl, b6⟩
        have b06 := b05.trans (b6.mono b05.size)
        have hh6 := hg5.to b6
        go_wp2_with fail
        refine (IntsNone w6).mono ?_
        rintro e w7 ⟨rfl, q7, rfl⟩
        have b07 := drewN_below b06 q7
        have hh7 : Handle (w6.drewN q7) := hh6
        generalize w6.drewN q7 = w7 at *
        go_wp2_with fail
        refine (HBn.out w7 b07).mono ?_
        rintro e w8 ⟨rfl, rfl⟩
        go_wp2_with fail
        refine (Err1 1 (by decide) w7 hh7).mono ?_
        rintro e w9 ⟨rfl, b9⟩
        have b09 := b07.trans (b9.mono b07.size)
        go_wp2_with fail
        refine (IntsNone w9).mono ?_
        rintro e w10 ⟨rfl, q10, rfl⟩
        have b0a := drewN_below b09 q10
        go_wp2
        go_ret
        exact ⟨rfl, b0a⟩
  · have hb1 : bothC c sum = chk c := by unfold bothC; rw [if_pos hc]
    have hbn : bothC c sum ≠ 0 := by rw [hb1]; exact hc
    have HGn := Lib.hid (fun W hb => Greedy_no c a cap sum W (hx.below hb) hl hbn)
    have HBn := Lib.hid (fun W hb => Best_no c a cap sum W (hx.below hb) hl hbn)
    have HAn := Lib.hid (fun W hb => Always_no c a cap W (hx.below hb) hl hc)
    have HCn := Lib.hid (fun W hb => check_no c a cap W (hx.below hb) hl hc)
    have HE := Lib.hid (Err1 (chk c) hc)
    have hc0 : (chk c == 0) = false := by rw [beq_eq_false_iff_ne]; exact hc
    rw [hb1] at HGn HBn
    clear hc hb1 hbn
    generalize chk c = k at *
    go_enter Tryd.func4, Tryd.ntmps4
    go_wp2_with fail
    refine HT.out.mono ?_
    rintro e w1 ⟨rfl, q, rfl⟩
    have b1 := drewN_below (Below.refl w.heap.size w) q
    have hg1 : Handle (w.drewN q) := hg
    generalize w.drewN q = w1 at *
    go_wp2_with fail
    refine (HCn.out w1 b1).mono ?_
    rintro e w2 ⟨rfl, rfl⟩
    go_wp2_with fail
    refine (HE.out w1 hg1).mono ?_
    rintro e w2 ⟨rfl, b2⟩
    have b02 := b1.trans (b2.mono b1.size)
    have hg2 := hg1.to b2
    go_wp2_with fail
    refine (HAn.out w2 b02).mono ?_
    rintro e w3 ⟨rfl, rfl⟩
    go_wp2_with fail
    refine (HE.out w2 hg2).mono ?_
    rintro e w4 ⟨rfl, b4⟩
    have b04 := b02.trans (b4.mono b02.size)
    have hg4 := hg2.to b4
    go_wp2_with fail
    refine (HGn.out w4 b04).mono ?_
    rintro e w5 ⟨rfl, rfl⟩
    go_wp2_with fail
    refine (HE.out w4 hg4).mono ?_
    rintro e w6 ⟨rfl, b6⟩
    have b06 := b04.trans (b6.mono b04.size)
    have hh6 := hg4.to b6
    go_wp2_with fail
    refine (IntsNone w6).mono ?_
    rintro e w7 ⟨rfl, q7, rfl⟩
    have b07 := drewN_below b06 q7
    have hh7 : Handle (w6.drewN q7) := hh6
    generalize w6.drewN q7 = w7 at *
    go_wp2_with fail
    refine (HBn.out w7 b07).mono ?_
    rintro e w8 ⟨rfl, rfl⟩
    go_wp2_with fail
    refine (HE.out w7 hh7).mono ?_
    rintro e w9 ⟨rfl, b9⟩
    have b09 := b07.trans (b9.mono b07.size)
    go_wp2_with fail
    refine (IntsNone w9).mono ?_
    rintro e w10 ⟨rfl, q10, rfl⟩
    have b0a := drewN_below b09 q10
    go_wp2
    go_ret
    exact ⟨rfl, b0a⟩
end Go.Proofs.YtomgcfjdmoefgaaDoor
