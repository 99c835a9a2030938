/- WALK: the law BinsSays. -/
import Derived.Test.YtomgcfjdmoefgaaDoorRefMany
namespace Go.Proofs.YtomgcfjdmoefgaaDoor
open Go Go.RowKit BinsPlain PackPlain SortPlain TwicePlain

theorem Err0 (w : World) (hg : Handle w) : Calls Tryd.prog 13 #[.nilIface, .int .i64 0] w fun e w' => e = .returned (.bool true) ∧ Below w.heap.size w w' := Error_any 0 0 w hg
theorem Err1 (n : Int) (hn : n ≠ 0) (w : World) (hg : Handle w) : Calls Tryd.prog 13 #[.iface 81 (.int .i64 n), .int .i64 n] w fun e w' => e = .returned (.bool true) ∧ Below w.heap.size w w' := by
  have := Error_any n n w hg
  rw [errV_bad hn] at this
  exact this.mono fun e w' h => ⟨by rw [h.1]; simp, h.2⟩
theorem IntsSame (xs : List Int) (a b : Option Addr) (n cap cap' : Nat) (hn : n = xs.length) (w : World) (hx : Ints w a xs) (hy : Ints w b xs) (hl : xs.length ≤ 9223372036854775807) :
    Calls Tryd.prog 25 #[.slice a n cap, .slice b n cap'] w fun e w' => e = .returned (.bool true) ∧ ∃ n, w' = w.drewN n := by
  subst hn
  have h := Ints_any xs xs a b cap cap' w hx hy hl
  have : sameB xs xs = true := by unfold sameB; simp
  rw [this] at h; exact h
theorem IntsNone (w : World) : Calls Tryd.prog 25 #[.slice none 0 0, .slice none 0 0] w fun e w' => e = .returned (.bool true) ∧ ∃ n, w' = w.drewN n := IntsSame [] none none 0 0 0 rfl w (.inl rfl) (.inl rfl) (by simp)
set_option maxRecDepth 100000 in
set_option maxHeartbeats 4000000 in
theorem BinsSays_walk (sizes ins : List Int) (room : Int) (a b : Option Addr) (cap cap' : Nat) (w : World) (hx : Ints w a sizes) (hy : Ints w b ins) (hl : sizes.length ≤ 9223372036854775807) (hl' : ins.length ≤ 9223372036854775807) (hg : Handle w) :
    Calls Tryd.prog 6 #[.slice a sizes.length cap, .int .i64 room, .slice b ins.length cap'] w fun e w' => e = .returned (.bool true) ∧ Below w.heap.size w w' := by
  have HT := Lib.hid (rsizes_any sizes room a cap w hx hl)
  by_cases hc : chk sizes room = 0
  · have hf := chk_fine hc
    have hs := hf.short
    rw [hc] at HT
    have Hf := Lib.hid hf
    have Hc := Lib.hid hc
    clear hf hc
    go_enter Tryd.func6, Tryd.ntmps6
    go_wp2_with fail
    refine HT.out.mono ?_
    rintro e w1 ⟨rfl, rfl⟩
    go_wp2_with fail
    refine (check_yes sizes room a cap w hx hl Hc.out).mono ?_
    rintro e w1 ⟨rfl, rfl⟩
    go_wp2_with fail
    refine (Err0 w hg).mono ?_
    rintro e w1 ⟨rfl, b1⟩
    have hg1 := hg.to b1
    go_wp2_with fail
    refine (rboxes_any sizes room false a cap w1 (hx.below b1) Hf.out).mono ?_
    rintro e w2 ⟨o1, ho1, rfl, hr1, b2⟩
    have ho1 : o1 = List.range sizes.length := by simpa using ho1
    subst ho1
    have b02 := b1.trans (b2.mono b1.size)
    have hg2 := hg1.to b2
    have HR1 := Lib.hid hr1
    clear hr1
    go_wp2_with fail
    refine (rboxes_any sizes room true a cap w2 (hx.below b02) Hf.out).mono ?_
    rintro e w3 ⟨o2, ho2, rfl, hr2, b3⟩
    have ho2 : Falls sizes sizes.length o2 := by simpa using ho2
    have b03 := b02.trans (b3.mono b02.size)
    have hg3 := hg2.to b3
    have HR2 := Lib.hid hr2
    have HO2 := Lib.hid ho2
    clear hr2 ho2
    go_wp2_with fail
    refine (First_yes sizes room a cap w3 (hx.below b03) Hf.out).mono ?_
    rintro e w4 ⟨g4, rfl, hg4, hr4, b4⟩
    have b04 := b03.trans (b4.mono b03.size)
    have hgg4 := hg3.to b4
    have hl4 : (firstL sizes room).length = sizes.length := firstL_length _ _
    have hr1' : Row w4 w1.heap.size 3 (firstL sizes room) := (HR1.out.below b3 HR1.out.lt).below b4 (Nat.lt_of_lt_of_le HR1.out.lt b3.size)
    have hI1 := IntsSame (firstL sizes room) (some ⟨g4, 0, none⟩) (some ⟨w1.heap.size, 0, none⟩) sizes.length sizes.length sizes.length hl4.symm
    have HI1 := Lib.hid (fun W hb => hI1 W (hr4.ints.below hb) (hr1'.ints.below hb) (by omega))
    have hr2' : Row w4 w2.heap.size 3 (fillL sizes room o2) := HR2.out.below b4 HR2.out.lt
    have HR2' := Lib.hid hr2'
    rw [hl4]
    clear hI1 hr1' hr4 hr2' hl4 HR1 HR2
    go_wp2_with fail
    refine (Err0 w4 hgg4).mono ?_
    rintro e w5 ⟨rfl, b5⟩
    have b05 := b04.trans (b5.mono b04.size)
    have hg5 := hgg4.to b5
    go_wp2_with fail
    refine (HI1.out w5 b5).mono ?_
    rintro e w6 ⟨rfl, q6, rfl⟩
    have b06 := drewN_below b05 q6
    have hg6 : Handle (w5.drewN q6) := hg5
    have HR2'' := Lib.hid ((HR2'.out.below b5 HR2'.out.lt).drewN q6)
    generalize w5.drewN q6 = w6 at *
    go_wp2_with fail
    refine (Falling_yes sizes room a cap w6 (hx.below b06) Hf.out).mono ?_
    rintro e w7 ⟨o7, ho7, g7, rfl, hg7, hr7, b7⟩
    have b07 := b06.trans (b7.mono b06.size)
    have hgg7 := hg6.to b7
    have ho : o7 = o2 := falls_unique (ho7.perm.trans HO2.out.perm.symm) ho7.sorted HO2.out.sorted
    subst ho
    have hl7 : (fillL sizes room o7).length = sizes.length := fillL_length _ _ _
    have hr2'' : Row w7 w2.heap.size 3 (fillL sizes room o7) := HR2''.out.below b7 HR2''.out.lt
    have hI2 := IntsSame (fillL sizes room o7) (some ⟨g7, 0, none⟩) (some ⟨w2.heap.size, 0, none⟩) sizes.length sizes.length sizes.length hl7.symm
    have HI2 := Lib.hid (fun W hb => hI2 W (hr7.ints.below hb) (hr2''.ints.below hb) (by omega))
    rw [hl7]
    clear hI2 hr2'' hr7 hl7 ho7 HR2' HR2'' HI1
    go_wp2_with fail
    refine (Err0 w7 hgg7).mono ?_
    rintro e w8 ⟨rfl, b8⟩
    have b08 := b07.trans (b8.mono b07.size)
    have hg8 := hgg7.to b8
    go_wp2_with fail
    refine (HI2.out w8 b8).mono ?_
    rintro e w9 ⟨rfl, q9, rfl⟩
    have b09 := drewN_below b08 q9
    have hg9 : Handle (w8.drewN q9) := hg8
    generalize w8.drewN q9 = w9 at *
    clear HI2 HO2
    have HL := Lib.hid (rmany_any sizes ins room a b cap cap' w9 (hx.below b09) (hy.below b09) Hf.out hl')
    have HM := Lib.hid (Many_any sizes ins room a b cap cap' w9 (hx.below b09) (hy.below b09) Hf.out hl')
    go_wp2_with fail
    refine HL.out.mono ?_
    rintro e w10 ⟨e1, n1, rfl, R1, rfl⟩
    have HR := Lib.hid R1
    clear R1
    go_wp2_with fail
    refine HM.out.mono ?_
    rintro e w11 ⟨n, er, rfl, Q, b11⟩
    obtain ⟨he, hn⟩ := many_same Hf.out HR.out Q
    subst he
    subst hn
    have b0b := b09.trans (b11.mono b09.size)
    have hg11 := hg9.to b11
    clear Q HR HM HL
    have hbe : ((n : Int) == n) = true := by simp
    by_cases h0 : er = 0
    · subst h0
      rw [errV_ok]
      go_wp2_with fail
      refine (Err0 w11 hg11).mono ?_
      rintro e w12 ⟨rfl, b12⟩
      have b0c := b0b.trans (b12.mono b0b.size)
      go_wp2
      go_ret
      exact ⟨rfl, b0c⟩
    · rw [errV_bad h0]
      have H0 := Lib.hid h0
      clear h0
      go_wp2_with fail
      refine (Err1 er H0.out w11 hg11).mono ?_
      rintro e w12 ⟨rfl, b12⟩
      have b0c := b0b.trans (b12.mono b0b.size)
      go_wp2
      go_ret
      exact ⟨rfl, b0c⟩
  · have HB := Lib.hid (fun W (hb : Below w.heap.size w W) => rmany_bad sizes ins room a b cap cap' W (hx.below hb) hl hl' hc)
    have HLo := Lib.hid (fun W (hb : Below w.heap.size w W) => Many_no sizes room a b cap ins.length cap' W (hx.below hb) hl hc)
    have HLi := Lib.hid (fun W (hb : Below w.heap.size w W) => First_no sizes room a cap W (hx.below hb) hl hc)
    have HLg := Lib.hid (fun W (hb : Below w.heap.size w W) => Falling_no sizes room a cap W (hx.below hb) hl hc)
    have HCk := Lib.hid (check_no sizes room a cap w hx hl hc)
    have HE := Lib.hid (Err1 (chk sizes room) hc)
    have hc0 : (chk sizes room == 0) = false := by rw [beq_eq_false_iff_ne]; exact hc
    clear hc
    generalize chk sizes room = c at *
    go_enter Tryd.func6, Tryd.ntmps6
    go_wp2_with fail
    refine HT.out.mono ?_
    rintro e w1 ⟨rfl, rfl⟩
    go_wp2_with fail
    refine HCk.out.mono ?_
    rintro e w1 ⟨rfl, rfl⟩
    go_wp2_with fail
    refine (HE.out w hg).mono ?_
    rintro e w1 ⟨rfl, b1⟩
    have hg1 := hg.to b1
    go_wp2_with fail
    refine (HLi.out w1 b1).mono ?_
    rintro e w2 ⟨rfl, rfl⟩
    go_wp2_with fail
    refine (HE.out w1 hg1).mono ?_
    rintro e w3 ⟨rfl, b3⟩
    have b03 := b1.trans (b3.mono b1.size)
    have hg3 := hg1.to b3
    go_wp2_with fail
    refine (IntsNone w3).mono ?_
    rintro e w4 ⟨rfl, q4, rfl⟩
    have b04 := drewN_below b03 q4
    have hg4 : Handle (w3.drewN q4) := hg3
    generalize w3.drewN q4 = w4 at *
    go_wp2_with fail
    refine (HLg.out w4 b04).mono ?_
    rintro e w5 ⟨rfl, b5⟩
    have b05 := b04.trans (b5.mono b04.size)
    have hg5 := hg4.to b5
    go_wp2_with fail
    refine (HE.out w5 hg5).mono ?_
    rintro e w6 ⟨rfl, b6⟩
    have b06 := b05.trans (b6.mono b05.size)
    have hg6 := hg5.to b6
    go_wp2_with fail
    refine (IntsNone w6).mono ?_
    rintro e w7 ⟨rfl, q7, rfl⟩
    have b07 := drewN_below b06 q7
    have hg7 : Handle (w6.drewN q7) := hg6
    generalize w6.drewN q7 = w7 at *
    go_wp2_with fail
    refine (HB.out w7 b07).mono ?_
    rintro e w8 ⟨rfl, rfl⟩
    go_wp2_with fail
    refine (HLo.out w8 b07).mono ?_
    rintro e w9 ⟨rfl, rfl⟩
    go_wp2_with fail
    refine (HE.out w8 hg7).mono ?_
    rintro e w10 ⟨rfl, b10⟩
    have b0a := b07.trans (b10.mono b07.size)
    go_wp2
    go_ret
    exact ⟨rfl, b0a⟩
end Go.Proofs.YtomgcfjdmoefgaaDoor
