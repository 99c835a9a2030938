/- WALK: the law WedSays. -/
import Derived.Test.YtomgcfjdmoefgaaDoorRefWed2
import Derived.Test.YtomgcfjdmoefgaaDoorErr
namespace Go.Proofs.YtomgcfjdmoefgaaDoor
open Go Go.RowKit WedPlain

theorem Err0 (w : World) (hg : Handle w) : Calls Tryd.prog 13 #[.nilIface, .int .i64 0] w fun e w' => e = .returned (.bool true) ∧ Below w.heap.size w w' := Error_any 0 0 w hg
theorem Err1 (n : Int) (hn : n ≠ 0) (w : World) (hg : Handle w) : Calls Tryd.prog 13 #[.iface 81 (.int .i64 n), .int .i64 n] w fun e w' => e = .returned (.bool true) ∧ Below w.heap.size w w' := by
  have := Error_any n n w hg
  rw [errV_bad hn] at this
  exact this.mono fun e w' h => ⟨by rw [h.1]; simp, h.2⟩
theorem IntsSame (xs : List Int) (a b : Option Addr) (n cap cap' : Nat) (hn : n = xs.length) (w : World) (hx : Ints w a xs) (hy : Ints w b xs) (hl : xs.length ≤ 9223372036854775807) :
    Calls Tryd.prog 25 #[.slice a n cap, .slice b n cap'] w fun e w' => e = .returned (.bool true) ∧ ∃ n, w' = w.drewN n := by
  subst hn
  have h := Ints_any xs xs a b cap cap' w hx hy hl
  have : sameB xs xs = true := by unfold sameB; simp
  rw [this] at h; exact h
theorem IntsNone (w : World) : Calls Tryd.prog 25 #[.slice none 0 0, .slice none 0 0] w fun e w' => e = .returned (.bool true) ∧ ∃ n, w' = w.drewN n := IntsSame [] none none 0 0 0 rfl w (.inl rfl) (.inl rfl) (by simp)

set_option maxRecDepth 100000 in
theorem Match_bad (A B : List (List Int)) (a b : Option Addr) (cap cap' : Nat) (w : World) (hx : Mat w a A) (hy : Mat w b B) (hl : A.length ≤ 9223372036854775807) (hl' : B.length ≤ 9223372036854775807) (h : sidesC A B ≠ 0) :
    Calls Tryd.prog 30 #[.slice a A.length cap, .slice b B.length cap'] w fun e w' => e = .returned (.tuple #[.slice none 0 0, .iface 81 (.int .i64 (sidesC A B))]) ∧ Below w.heap.size w w' := by
  have H := CheckW_code A B a b cap cap' w hx hy hl hl'
  rw [errV_bad h] at H
  clear h
  generalize sidesC A B = c at *
  have HC := Lib.hid H
  clear H
  go_enter Tryd.func30, Tryd.ntmps30
  go_wp2_with fail
  refine HC.out.mono ?_
  rintro e w' ⟨rfl, hb⟩
  go_wp2
  go_ret2
  exact ⟨rfl, hb⟩
set_option maxRecDepth 100000 in
theorem Stable_bad (A B : List (List Int)) (m : List Int) (a b c : Option Addr) (cap cap' cap2 : Nat) (w : World) (hx : Mat w a A) (hy : Mat w b B) (hl : A.length ≤ 9223372036854775807) (hl' : B.length ≤ 9223372036854775807) (h : sidesC A B ≠ 0) :
    Calls Tryd.prog 33 #[.slice a A.length cap, .slice b B.length cap', .slice c m.length cap2] w fun e w' => e = .returned (.tuple #[.bool false, .slice none 0 0, .iface 81 (.int .i64 (sidesC A B))]) ∧ Below w.heap.size w w' := by
  have H := CheckW_code A B a b cap cap' w hx hy hl hl'
  rw [errV_bad h] at H
  clear h
  generalize sidesC A B = c at *
  have HC := Lib.hid H
  clear H
  go_enter Tryd.func33, Tryd.ntmps33
  go_wp2_with fail
  refine HC.out.mono ?_
  rintro e w' ⟨rfl, hb⟩
  go_wp2
  go_ret3
  exact ⟨rfl, hb⟩
set_option maxRecDepth 100000 in
theorem Stable_bad2 (A B : List (List Int)) (m : List Int) (a b c : Option Addr) (cap cap' cap2 : Nat) (w : World) (hx : Mat w a A) (hy : Mat w b B) (hm : Ints w c m) (hf : FineW A B) (hl2 : m.length ≤ 9223372036854775807) (h : wholeC A.length m ≠ 0) :
    Calls Tryd.prog 33 #[.slice a A.length cap, .slice b B.length cap', .slice c m.length cap2] w fun e w' => e = .returned (.tuple #[.bool false, .slice none 0 0, .iface 81 (.int .i64 (wholeC A.length m))]) ∧ Below w.heap.size w w' := by
  have hsh := hf.short
  have hsm := hf.same
  have H := CheckW_code A B a b cap cap' w hx hy (by omega) (by omega)
  rw [(sidesC_ok A B).2 hf, errV_ok] at H
  have HW := Lib.hid (fun W (hb : Below w.heap.size w W) => Whole_code A.length m c cap2 W (hm.below hb) (by omega) hl2)
  rw [errV_bad h] at HW
  clear h hf hsm hsh
  generalize wholeC A.length m = k at *
  have HC := Lib.hid H
  clear H
  go_enter Tryd.func33, Tryd.ntmps33
  go_wp2_with fail
  refine HC.out.mono ?_
  rintro e w' ⟨rfl, hb⟩
  go_wp2_with fail
  refine (HW.out w' hb).mono ?_
  rintro e w2 ⟨rfl, hb2⟩
  have hb3 := hb.trans (hb2.mono hb.size)
  go_wp2
  go_ret3
  exact ⟨rfl, hb3⟩

theorem rOf_mOf {A B : List (List Int)} (hf : FineW A B) {asked asked' : Nat → Nat} {has : Nat → Int} (I : RInv A.length (aOf A) (xOf A) (xOf B) asked) (h : ∀ i j, i < A.length → j < A.length → aOf A i (asked i) = aOf A j (asked j) → i = j)
    (J : Inv A.length (aOf A) (xOf A) (xOf B) asked' has []) : rOf A asked A.length = mOf A asked' := by
  unfold rOf mOf
  refine List.map_congr_left fun i hi => ?_
  rw [I.same (lists_of hf.a rfl) h J (List.mem_range.1 hi)]
/-- the first two that would rather have each other are the same -/
theorem pair_same {n : Nat} {P : Nat → Nat → Prop} {i k i' k' : Nat} (h1 : i < n) (h2 : k < n) (h3 : P i k) (h4 : ∀ p q, q < n → (p < i ∨ p = i ∧ q < k) → ¬ P p q) (g1 : i' < n) (g2 : k' < n) (g3 : P i' k') (g4 : ∀ p q, q < n → (p < i' ∨ p = i' ∧ q < k') → ¬ P p q) : i = i' ∧ k = k' := by
  rcases Nat.lt_trichotomy i i' with c | c | c
  · exact absurd h3 (g4 i k h2 (.inl c))
  · subst c
    rcases Nat.lt_trichotomy k k' with d | d | d
    · exact absurd h3 (g4 i k h2 (.inr ⟨rfl, d⟩))
    · exact ⟨rfl, d⟩
    · exact absurd g3 (h4 i k' g2 (.inr ⟨rfl, d⟩))
  · exact absurd g3 (h4 i' k' g2 (.inl c))

set_option maxRecDepth 100000 in
set_option maxHeartbeats 4000000 in
theorem WedSays_walk (A B : List (List Int)) (m : List Int) (a b c : Option Addr) (cap cap' cap2 : Nat) (w : World) (hx : Mat w a A) (hy : Mat w b B) (hm : Ints w c m) (hl : A.length ≤ 9223372036854775807) (hl' : B.length ≤ 9223372036854775807) (hl2 : m.length ≤ 9223372036854775807) (hg : Handle w) :
    Calls Tryd.prog 5 #[.slice a A.length cap, .slice b B.length cap', .slice c m.length cap2] w fun e w' => e = .returned (.bool true) ∧ Below w.heap.size w w' := by
  have HS := Lib.hid (rsides_any A B a b cap cap' w hx hy hl hl')
  have HC := Lib.hid (fun W (hb : Below w.heap.size w W) => CheckW_code A B a b cap cap' W (hx.below hb) (hy.below hb) hl hl')
  by_cases hc : sidesC A B = 0
  · have hf := (sidesC_ok A B).1 hc
    have hsm := hf.same
    have hsh := hf.short
    have HM := Lib.hid (fun W (hb : Below w.heap.size w W) => Match_any A B a b cap cap' W (hx.below hb) (hy.below hb) hl hl')
    have HR := Lib.hid (fun W (hb : Below w.heap.size w W) => rmatch_any A B a b cap cap' W (hx.below hb) (hy.below hb) hf)
    have HW := Lib.hid (fun W (hb : Below w.heap.size w W) => rwhole_any A.length m c cap2 W (hm.below hb) (by omega) hl2)
    have HB := Lib.hid (fun W (hb : Below w.heap.size w W) => Stable_bad2 A B m a b c cap cap' cap2 W (hx.below hb) (hy.below hb) (hm.below hb) hf hl2)
    have HT := Lib.hid (fun W (hb : Below w.heap.size w W) => Stable_any A B m a b c cap cap' cap2 W (hx.below hb) (hy.below hb) (hm.below hb) hl hl' hl2)
    have HP := Lib.hid (fun W (hb : Below w.heap.size w W) => rstable_any A B m a b c cap cap' cap2 W (hx.below hb) (hy.below hb) (hm.below hb) hf)
    rw [hc] at HS HC
    rw [errV_ok] at HC
    have Hf := Lib.hid hf
    clear hf hc hsm hsh
    go_enter Tryd.func5, Tryd.ntmps5
    go_wp2_with fail
    refine HS.out.mono ?_
    rintro e w1 ⟨rfl, q1, rfl⟩
    have b1 := drewN_below (Below.refl w.heap.size w) q1
    have hg1 : Handle (w.drewN q1) := hg
    generalize w.drewN q1 = w1 at *
    go_wp2_with fail
    refine (HC.out w1 b1).mono ?_
    rintro e w2 ⟨rfl, b2⟩
    have b02 := b1.trans (b2.mono b1.size)
    have hg2 := hg1.to b2
    go_wp2_with fail
    refine (Err0 w2 hg2).mono ?_
    rintro e w3 ⟨rfl, b3⟩
    have b03 := b02.trans (b3.mono b02.size)
    have hg3 := hg2.to b3
    go_wp2_with fail
    refine (HR.out w3 b03).mono ?_
    rintro e w4 ⟨asked, ao, capo, rfl, ho, b4, hI, hinj⟩
    have b04 := b03.trans (b4.mono b03.size)
    have hg4 := hg3.to b4
    have HI := Lib.hid hI
    have Hinj := Lib.hid hinj
    have Hwant := Lib.hid ho.ints
    clear hI hinj ho
    go_wp2_with fail
    refine (HM.out w4 b04).mono ?_
    rintro e w5 ⟨h5, b5⟩
    rcases h5 with ⟨_, asked', has, g, hJ, rfl, hx5, _⟩ | ⟨h5, _⟩
    rotate_left
    · exact absurd Hf.out h5
    have b05 := b04.trans (b5.mono b04.size)
    have hg5 := hg4.to b5
    have hw5 := Hwant.out.below b5
    rw [rOf_mOf Hf.out HI.out Hinj.out hJ] at hw5
    have Hsame := Lib.hid (fun W (hb : Below w5.heap.size w5 W) => IntsSame (mOf A asked') (some ⟨g, 0, none⟩) ao A.length A.length capo (mOf_length _ _).symm W (hx5.below hb) (hw5.below hb) (by rw [mOf_length]; exact hl))
    clear hx5 hw5 hJ HI Hinj Hwant
    go_wp2_with fail
    refine (Err0 w5 hg5).mono ?_
    rintro e w6 ⟨rfl, b6⟩
    have b06 := b05.trans (b6.mono b05.size)
    have hg6 := hg5.to b6
    go_wp2_with fail
    refine (Hsame.out w6 b6).mono ?_
    rintro e w7 ⟨rfl, q7, rfl⟩
    have b07 := drewN_below b06 q7
    have hg7 : Handle (w6.drewN q7) := hg6
    generalize w6.drewN q7 = w7 at *
    go_wp2_with fail
    refine (HW.out w7 b07).mono ?_
    rintro e w8 ⟨rfl, q8, rfl⟩
    have b08 := drewN_below b07 q8
    have hg8 : Handle (w7.drewN q8) := hg7
    generalize w7.drewN q8 = w8 at *
    by_cases hw : wholeC A.length m = 0
    · have hA := (wholeC_ok A.length m).1 hw
      rw [hw]
      have HA := Lib.hid hA
      clear hw hA HB HM HR HW
      go_wp2_with fail
      refine (HP.out w8 b08 HA.out).mono ?_
      rintro e w9 ⟨h9, b9⟩
      have b09 := b08.trans (b9.mono b08.size)
      have hg9 := hg8.to b9
      rcases h9 with ⟨rfl, hgood⟩ | ⟨i, k, g2, rfl, hg2', hrow, hi, hk, hbad, hmin⟩
      · have Hgood := Lib.hid hgood
        clear hgood
        go_wp2_with fail
        refine (HT.out w9 b09).mono ?_
        rintro e w10 ⟨h10, b10⟩
        have b010 := b09.trans (b10.mono b09.size)
        have hg10 := hg9.to b10
        rcases h10 with ⟨_, _, h10⟩ | ⟨h10, _⟩
        rotate_left
        · exact absurd ⟨Hf.out, HA.out⟩ h10
        rcases h10 with ⟨rfl, _⟩ | ⟨i, k, _, _, _, _, hi, hk, hbad, _⟩
        rotate_left
        · exact absurd hbad (Hgood.out i k hi hk)
        go_wp2_with fail
        refine (Err0 w10 hg10).mono ?_
        rintro e w11 ⟨rfl, b11⟩
        have b011 := b010.trans (b11.mono b010.size)
        go_wp2_with fail
        refine (IntsNone w11).mono ?_
        rintro e w12 ⟨rfl, q12, rfl⟩
        have b012 := drewN_below b011 q12
        go_wp2
        go_ret
        exact ⟨rfl, b012⟩
      · have Hbad := Lib.hid hbad
        have Hmin := Lib.hid hmin
        have Hrow := Lib.hid hrow
        clear hbad hmin hrow
        go_wp2_with fail
        refine (HT.out w9 b09).mono ?_
        rintro e w10 ⟨h10, b10⟩
        have b010 := b09.trans (b10.mono b09.size)
        have hg10 := hg9.to b10
        rcases h10 with ⟨_, _, h10⟩ | ⟨h10, _⟩
        rotate_left
        · exact absurd ⟨Hf.out, HA.out⟩ h10
        rcases h10 with ⟨_, hgood⟩ | ⟨i', k', g3, rfl, hg3', hrow3, hi', hk', hbad', hmin'⟩
        · exact absurd Hbad.out (hgood i k hi hk)
        obtain ⟨rfl, rfl⟩ := pair_same (n := A.length) (P := badP A B m) hi hk Hbad.out Hmin.out hi' hk' hbad' hmin'
        have hlt2 := Hrow.out.lt
        have Hsame2 := Lib.hid (fun W (hb : Below w10.heap.size w10 W) => IntsSame [(i : Int), (k : Int)] (some ⟨g3, 0, none⟩) (some ⟨g2, 0, none⟩) 2 2 2 rfl W (hrow3.ints.below hb) ((Hrow.out.ints.below b10).below hb) (by simp))
        clear hrow3 hbad' hmin'
        go_wp2_with fail
        refine (Err0 w10 hg10).mono ?_
        rintro e w11 ⟨rfl, b11⟩
        have b011 := b010.trans (b11.mono b010.size)
        go_wp2_with fail
        refine (Hsame2.out w11 b11).mono ?_
        rintro e w12 ⟨rfl, q12, rfl⟩
        have b012 := drewN_below b011 q12
        go_wp2
        go_ret
        exact ⟨rfl, b012⟩
    · have HB2 := Lib.hid (fun W hb => HB.out W hb hw)
      have HE := Lib.hid (Err1 (wholeC A.length m) hw)
      have hw0 : (wholeC A.length m == 0) = false := by rw [beq_eq_false_iff_ne]; exact hw
      clear hw HB HM HR HW HP HT
      generalize wholeC A.length m = k at *
      go_wp2_with fail
      refine (HB2.out w8 b08).mono ?_
      rintro e w9 ⟨rfl, b9⟩
      have b09 := b08.trans (b9.mono b08.size)
      have hg9 := hg8.to b9
      go_wp2_with fail
      refine (HE.out w9 hg9).mono ?_
      rintro e w10 ⟨rfl, b10⟩
      have b010 := b09.trans (b10.mono b09.size)
      go_wp2_with fail
      refine (IntsNone w10).mono ?_
      rintro e w12 ⟨rfl, q12, rfl⟩
      have b012 := drewN_below b010 q12
      go_wp2
      go_ret
      exact ⟨rfl, b012⟩
  · have HM := Lib.hid (fun W (hb : Below w.heap.size w W) => Match_bad A B a b cap cap' W (hx.below hb) (hy.below hb) hl hl' hc)
    have HT := Lib.hid (fun W (hb : Below w.heap.size w W) => Stable_bad A B m a b c cap cap' cap2 W (hx.below hb) (hy.below hb) hl hl' hc)
    have HE := Lib.hid (Err1 (sidesC A B) hc)
    rw [errV_bad hc] at HC
    have hc0 : (sidesC A B == 0) = false := by rw [beq_eq_false_iff_ne]; exact hc
    clear hc
    generalize sidesC A B = k at *
    go_enter Tryd.func5, Tryd.ntmps5
    go_wp2_with fail
    refine HS.out.mono ?_
    rintro e w1 ⟨rfl, q1, rfl⟩
    have b1 := drewN_below (Below.refl w.heap.size w) q1
    have hg1 : Handle (w.drewN q1) := hg
    generalize w.drewN q1 = w1 at *
    go_wp2_with fail
    refine (HC.out w1 b1).mono ?_
    rintro e w2 ⟨rfl, b2⟩
    have b02 := b1.trans (b2.mono b1.size)
    have hg2 := hg1.to b2
    go_wp2_with fail
    refine (HE.out w2 hg2).mono ?_
    rintro e w3 ⟨rfl, b3⟩
    have b03 := b02.trans (b3.mono b02.size)
    have hg3 := hg2.to b3
    go_wp2_with fail
    refine (HM.out w3 b03).mono ?_
    rintro e w4 ⟨rfl, b4⟩
    have b04 := b03.trans (b4.mono b03.size)
    have hg4 := hg3.to b4
    go_wp2_with fail
    refine (HE.out w4 hg4).mono ?_
    rintro e w5 ⟨rfl, b5⟩
    have b05 := b04.trans (b5.mono b04.size)
    have hg5 := hg4.to b5
    go_wp2_with fail
    refine (IntsNone w5).mono ?_
    rintro e w6 ⟨rfl, q6, rfl⟩
    have b06 := drewN_below b05 q6
    have hg6 : Handle (w5.drewN q6) := hg5
    generalize w5.drewN q6 = w6 at *
    go_wp2_with fail
    refine (HT.out w6 b06).mono ?_
    rintro e w7 ⟨rfl, b7⟩
    have b07 := b06.trans (b7.mono b06.size)
    have hg7 := hg6.to b7
    go_wp2_with fail
    refine (HE.out w7 hg7).mono ?_
    rintro e w8 ⟨rfl, b8⟩
    have b08 := b07.trans (b8.mono b07.size)
    go_wp2_with fail
    refine (IntsNone w8).mono ?_
    rintro e w9 ⟨rfl, q9, rfl⟩
    have b09 := drewN_below b08 q9
    go_wp2
    go_ret
    exact ⟨rfl, b09⟩
end Go.Proofs.YtomgcfjdmoefgaaDoor
