/- WALK: the law PageSays. -/
import Derived.Test.YtmlnegcffeghcaaDoorRefPage4A
import Derived.Test.YtmlnegcffeghcaaDoorRefPage4B
import Derived.Test.YtmlnegcffeghcaaDoorRefPage4C
import Derived.Test.YtmlnegcffeghcaaDoorPageWays2S
import Derived.Test.YtmlnegcffeghcaaDoorErr
namespace Go.Proofs.YtmlnegcffeghcaaDoor
open Go Go.RowKit PagePlain

theorem Err0 (w : World) (hg : Handle w) : Calls Tryd.prog 5 #[.nilIface, .int .i64 0] w fun e w' => e = .returned (.bool true) ∧ Below w.heap.size w w' := Error_any 0 0 w hg
theorem Err1 (n : Int) (hn : n ≠ 0) (w : World) (hg : Handle w) : Calls Tryd.prog 5 #[.iface 37 (.int .i64 n), .int .i64 n] w fun e w' => e = .returned (.bool true) ∧ Below w.heap.size w w' := by
  have := Error_any n n w hg
  rw [errV_bad hn] at this
  exact this.mono fun e w' h => ⟨by rw [h.1]; simp, h.2⟩
theorem pages_fine {K : Kind} {f : Nat} {asks : List Int} {w : World} {e : Ending} {w' : World} (h : PageRes K f asks w e w') (hF : FineP f asks) :
    ∃ g, e = .returned (.tuple #[.slice (some ⟨g, 0, none⟩) asks.length asks.length, .nilIface]) ∧ Bls w' (some ⟨g, 0, none⟩) (missL asks (hnd f asks K)) ∧ Below w.heap.size w w' := by
  obtain ⟨⟨_, g, he, hb, _⟩ | ⟨hno, _⟩, hB⟩ := h
  · exact ⟨g, he, brow_bls hb (bits_length _ _), hB⟩
  · exact absurd hF hno
theorem pages_no {K : Kind} {frames : Int} {asks : List Int} {w : World} {e : Ending} {w' : World} (h : PageRes K frames asks w e w') (hF : ¬ FineP frames asks) :
    e = .returned (.tuple #[.slice none 0 0, .iface 37 (.int .i64 (chkP frames asks))]) ∧ Below w.heap.size w w' := by
  obtain ⟨⟨hy, _⟩ | ⟨_, he, _⟩, hB⟩ := h
  · exact absurd hy hF
  · exact ⟨he, hB⟩
theorem rpages_fifo0 (f : Nat) (l : List Int) (a : Option Addr) (cap : Nat) (w : World) (hx : Ints w a l) (hF : FineP f l) :
    Calls Tryd.prog 7 #[.int .i64 f, .slice a l.length cap, .int .i64 0, .slice none 0 0] w fun e w' => PagesPost f l vFifo w e w' := rpages_fifo f l [] a none cap 0 w hx hF
theorem rpages_far0 (f : Nat) (l : List Int) (a : Option Addr) (cap : Nat) (w : World) (hx : Ints w a l) (hF : FineP f l) :
    Calls Tryd.prog 7 #[.int .i64 f, .slice a l.length cap, .int .i64 1, .slice none 0 0] w fun e w' => PagesPost f l (vFar l) w e w' := rpages_far f l [] a none cap 0 w hx hF
set_option maxRecDepth 100000 in
set_option maxHeartbeats 4000000 in
theorem PageSays_walk (frames : Int) (asks picks : List Int) (a ap : Option Addr) (cap capp : Nat) (w : World) (hx : Ints w a asks) (hy : Ints w ap picks) (hl : asks.length ≤ 9223372036854775807) (hl2 : picks.length ≤ 9223372036854775807) (hwf : ∀ n ∈ picks, -9223372036854775808 ≤ n ∧ n ≤ 9223372036854775807)
    (hcap : asks.length ≤ cap) (hcm : cap ≤ 9223372036854775807) (hg : Handle w) :
    Calls Tryd.prog 3 #[.int .i64 frames, .slice a asks.length cap, .slice ap picks.length capp] w fun e w' => e = .returned (.bool true) ∧ Below w.heap.size w w' := by
  have HT := Lib.hid (rasks asks frames a cap w hx hl)
  have HC := Lib.hid (checkP_any asks frames a cap w hx hl)
  by_cases hF : FineP frames asks
  · obtain ⟨f, rfl⟩ := Int.eq_ofNat_of_zero_le (show 0 ≤ frames by have := hF.r1; omega)
    have f0 : 0 < f := by have := hF.r1; omega
    have h60 := hF.short
    rw [fine_chkP hF] at HT HC
    rw [errV_ok] at HC
    have HF := Lib.hid hF
    have E1 := Lib.hid (fifo_same f asks f0)
    have E2 := Lib.hid (lru_same f asks f0)
    have E3 := Lib.hid (far_same f asks f0 h60)
    have E4 := Lib.hid (told_same f asks picks f0)
    have HX := Lib.hid (fun W (hb : Below w.heap.size w W) => hx.below hb)
    have HY := Lib.hid (fun W (hb : Below w.heap.size w W) => hy.below hb)
    have HWF := Lib.hid hwf
    clear hF hx hy hwf
    go_enter Tryd.func3, Tryd.ntmps3
    go_wp2_with fail
    refine HT.out.mono ?_
    rintro e w1 ⟨rfl, rfl⟩
    go_wp2_with fail
    refine HC.out.mono ?_
    rintro e w1 ⟨rfl, rfl⟩
    go_wp2_with fail
    refine (Err0 w hg).mono ?_
    rintro e w1 ⟨rfl, b1⟩
    have hg1 := hg.to b1
    go_wp2_with fail
    refine (rpages_fifo0 f asks a cap w1 (HX.out w1 b1) HF.out).mono ?_
    rintro e w2 ⟨a1, c1x, rfl, o1, c2⟩
    have b2 := b1.trans (c2.mono b1.size)
    have hg2 := hg1.to c2
    have R1 := Lib.hid (o1.bls)
    clear o1
    go_wp2_with fail
    refine (rlru_any f asks a cap w2 (HX.out w2 b2) HF.out).mono ?_
    rintro e w3 ⟨a2, c2x, rfl, o2, c3⟩
    have b3 := b2.trans (c3.mono b2.size)
    have hg3 := hg2.to c3
    replace R1 := Lib.hid (R1.out.below c3)
    have R2 := Lib.hid (o2.bls)
    clear o2
    go_wp2_with fail
    refine (rpages_far0 f asks a cap w3 (HX.out w3 b3) HF.out).mono ?_
    rintro e w4 ⟨a3, c3x, rfl, o3, c4⟩
    have b4 := b3.trans (c4.mono b3.size)
    have hg4 := hg3.to c4
    replace R1 := Lib.hid (R1.out.below c4)
    replace R2 := Lib.hid (R2.out.below c4)
    have R3 := Lib.hid (o3.bls)
    clear o3
    go_wp2_with fail
    refine (rpages_told f asks picks a ap cap capp w4 (HX.out w4 b4) HF.out (HY.out w4 b4) hl2 HWF.out).mono ?_
    rintro e w5 ⟨a4, c4x, rfl, o4, c5⟩
    have b5 := b4.trans (c5.mono b4.size)
    have hg5 := hg4.to c5
    replace R1 := Lib.hid (R1.out.below c5)
    replace R2 := Lib.hid (R2.out.below c5)
    replace R3 := Lib.hid (R3.out.below c5)
    have R4 := Lib.hid (o4.bls)
    clear o4
    go_wp2_with fail
    refine (Fifo_any f asks a cap w5 (HX.out w5 b5) hl).mono ?_
    rintro e w6 hres
    obtain ⟨g1, rfl, s1, c6⟩ := pages_fine hres HF.out
    clear hres
    have b6 := b5.trans (c6.mono b5.size)
    have hg6 := hg5.to c6
    replace R1 := Lib.hid (R1.out.below c6)
    replace R2 := Lib.hid (R2.out.below c6)
    replace R3 := Lib.hid (R3.out.below c6)
    replace R4 := Lib.hid (R4.out.below c6)
    have S1 := Lib.hid (s1)
    clear s1
    go_wp2_with fail
    refine (Lru_any f asks a cap w6 (HX.out w6 b6) hl).mono ?_
    rintro e w7 hres
    obtain ⟨g2, rfl, s2, c7⟩ := pages_fine hres HF.out
    clear hres
    have b7 := b6.trans (c7.mono b6.size)
    have hg7 := hg6.to c7
    replace R1 := Lib.hid (R1.out.below c7)
    replace R2 := Lib.hid (R2.out.below c7)
    replace R3 := Lib.hid (R3.out.below c7)
    replace R4 := Lib.hid (R4.out.below c7)
    replace S1 := Lib.hid (S1.out.below c7)
    have S2 := Lib.hid (s2)
    clear s2
    go_wp2_with fail
    refine (Far_any f asks a cap w7 (HX.out w7 b7) hl hcap hcm).mono ?_
    rintro e w8 hres
    obtain ⟨g3, rfl, s3, c8⟩ := pages_fine hres HF.out
    clear hres
    have b8 := b7.trans (c8.mono b7.size)
    have hg8 := hg7.to c8
    replace R1 := Lib.hid (R1.out.below c8)
    replace R2 := Lib.hid (R2.out.below c8)
    replace R3 := Lib.hid (R3.out.below c8)
    replace R4 := Lib.hid (R4.out.below c8)
    replace S1 := Lib.hid (S1.out.below c8)
    replace S2 := Lib.hid (S2.out.below c8)
    have S3 := Lib.hid (s3)
    clear s3
    go_wp2_with fail
    refine (Told_any f asks picks a ap cap capp w8 (HX.out w8 b8) hl (HY.out w8 b8) hl2 HWF.out).mono ?_
    rintro e w9 hres
    obtain ⟨g4, rfl, s4, c9⟩ := pages_fine hres HF.out
    clear hres
    have b9 := b8.trans (c9.mono b8.size)
    have hg9 := hg8.to c9
    replace R1 := Lib.hid (R1.out.below c9)
    replace R2 := Lib.hid (R2.out.below c9)
    replace R3 := Lib.hid (R3.out.below c9)
    replace R4 := Lib.hid (R4.out.below c9)
    replace S1 := Lib.hid (S1.out.below c9)
    replace S2 := Lib.hid (S2.out.below c9)
    replace S3 := Lib.hid (S3.out.below c9)
    have S4 := Lib.hid (s4)
    clear s4
    go_wp2_with fail
    refine (Err0 w9 hg9).mono ?_
    rintro e w10 ⟨rfl, c10⟩
    have b10 := b9.trans (c10.mono b9.size)
    have hg10 := hg9.to c10
    replace R1 := Lib.hid (R1.out.below c10)
    replace R2 := Lib.hid (R2.out.below c10)
    replace R3 := Lib.hid (R3.out.below c10)
    replace R4 := Lib.hid (R4.out.below c10)
    replace S1 := Lib.hid (S1.out.below c10)
    replace S2 := Lib.hid (S2.out.below c10)
    replace S3 := Lib.hid (S3.out.below c10)
    replace S4 := Lib.hid (S4.out.below c10)
    go_wp2_with fail
    refine (Err0 w10 hg10).mono ?_
    rintro e w11 ⟨rfl, c11⟩
    have b11 := b10.trans (c11.mono b10.size)
    have hg11 := hg10.to c11
    replace R1 := Lib.hid (R1.out.below c11)
    replace R2 := Lib.hid (R2.out.below c11)
    replace R3 := Lib.hid (R3.out.below c11)
    replace R4 := Lib.hid (R4.out.below c11)
    replace S1 := Lib.hid (S1.out.below c11)
    replace S2 := Lib.hid (S2.out.below c11)
    replace S3 := Lib.hid (S3.out.below c11)
    replace S4 := Lib.hid (S4.out.below c11)
    go_wp2_with fail
    refine (Err0 w11 hg11).mono ?_
    rintro e w12 ⟨rfl, c12⟩
    have b12 := b11.trans (c12.mono b11.size)
    have hg12 := hg11.to c12
    replace R1 := Lib.hid (R1.out.below c12)
    replace R2 := Lib.hid (R2.out.below c12)
    replace R3 := Lib.hid (R3.out.below c12)
    replace R4 := Lib.hid (R4.out.below c12)
    replace S1 := Lib.hid (S1.out.below c12)
    replace S2 := Lib.hid (S2.out.below c12)
    replace S3 := Lib.hid (S3.out.below c12)
    replace S4 := Lib.hid (S4.out.below c12)
    go_wp2_with fail
    refine (Err0 w12 hg12).mono ?_
    rintro e w13 ⟨rfl, c13⟩
    have b13 := b12.trans (c13.mono b12.size)
    have hg13 := hg12.to c13
    replace R1 := Lib.hid (R1.out.below c13)
    replace R2 := Lib.hid (R2.out.below c13)
    replace R3 := Lib.hid (R3.out.below c13)
    replace R4 := Lib.hid (R4.out.below c13)
    replace S1 := Lib.hid (S1.out.below c13)
    replace S2 := Lib.hid (S2.out.below c13)
    replace S3 := Lib.hid (S3.out.below c13)
    replace S4 := Lib.hid (S4.out.below c13)
    go_wp2_with fail
    refine (bools_same (missL asks (rhd f asks vFifo)) (some ⟨g1, 0, none⟩) a1 asks.length asks.length c1x (bits_length _ _).symm w13 (by have h := S1.out; rw [E1.out] at h; exact h) R1.out (by rw [← (bits_length _ _).symm]; omega)).mono ?_
    rintro e w14 ⟨rfl, q14, hw14⟩
    have c14 : Below w13.heap.size w13 w14 := by rw [hw14]; exact drewN_below (Below.refl _ _) _
    clear hw14
    have b14 := b13.trans (c14.mono b13.size)
    replace R1 := Lib.hid (R1.out.below c14)
    replace R2 := Lib.hid (R2.out.below c14)
    replace R3 := Lib.hid (R3.out.below c14)
    replace R4 := Lib.hid (R4.out.below c14)
    replace S1 := Lib.hid (S1.out.below c14)
    replace S2 := Lib.hid (S2.out.below c14)
    replace S3 := Lib.hid (S3.out.below c14)
    replace S4 := Lib.hid (S4.out.below c14)
    go_wp2_with fail
    refine (bools_same (lruL f asks asks.length) (some ⟨g2, 0, none⟩) a2 asks.length asks.length c2x (lruL_length _ _ _).symm w14 (by have h := S2.out; rw [E2.out] at h; exact h) R2.out (by rw [← (lruL_length _ _ _).symm]; omega)).mono ?_
    rintro e w15 ⟨rfl, q15, hw15⟩
    have c15 : Below w14.heap.size w14 w15 := by rw [hw15]; exact drewN_below (Below.refl _ _) _
    clear hw15
    have b15 := b14.trans (c15.mono b14.size)
    replace R1 := Lib.hid (R1.out.below c15)
    replace R2 := Lib.hid (R2.out.below c15)
    replace R3 := Lib.hid (R3.out.below c15)
    replace R4 := Lib.hid (R4.out.below c15)
    replace S1 := Lib.hid (S1.out.below c15)
    replace S2 := Lib.hid (S2.out.below c15)
    replace S3 := Lib.hid (S3.out.below c15)
    replace S4 := Lib.hid (S4.out.below c15)
    go_wp2_with fail
    refine (bools_same (missL asks (rhd f asks (vFar asks))) (some ⟨g3, 0, none⟩) a3 asks.length asks.length c3x (bits_length _ _).symm w15 (by have h := S3.out; rw [E3.out] at h; exact h) R3.out (by rw [← (bits_length _ _).symm]; omega)).mono ?_
    rintro e w16 ⟨rfl, q16, hw16⟩
    have c16 : Below w15.heap.size w15 w16 := by rw [hw16]; exact drewN_below (Below.refl _ _) _
    clear hw16
    have b16 := b15.trans (c16.mono b15.size)
    replace R1 := Lib.hid (R1.out.below c16)
    replace R2 := Lib.hid (R2.out.below c16)
    replace R3 := Lib.hid (R3.out.below c16)
    replace R4 := Lib.hid (R4.out.below c16)
    replace S1 := Lib.hid (S1.out.below c16)
    replace S2 := Lib.hid (S2.out.below c16)
    replace S3 := Lib.hid (S3.out.below c16)
    replace S4 := Lib.hid (S4.out.below c16)
    go_wp2_with fail
    refine (bools_same (missL asks (rhd f asks (vTold picks f))) (some ⟨g4, 0, none⟩) a4 asks.length asks.length c4x (bits_length _ _).symm w16 (by have h := S4.out; rw [E4.out] at h; exact h) R4.out (by rw [← (bits_length _ _).symm]; omega)).mono ?_
    rintro e w17 ⟨rfl, q17, hw17⟩
    have c17 : Below w16.heap.size w16 w17 := by rw [hw17]; exact drewN_below (Below.refl _ _) _
    clear hw17
    have b17 := b16.trans (c17.mono b16.size)
    replace R1 := Lib.hid (R1.out.below c17)
    replace R2 := Lib.hid (R2.out.below c17)
    replace R3 := Lib.hid (R3.out.below c17)
    replace R4 := Lib.hid (R4.out.below c17)
    replace S1 := Lib.hid (S1.out.below c17)
    replace S2 := Lib.hid (S2.out.below c17)
    replace S3 := Lib.hid (S3.out.below c17)
    replace S4 := Lib.hid (S4.out.below c17)
    go_wp2
    go_ret
    exact ⟨rfl, b17⟩
  · have hne := chkP_no hF
    have HP := Lib.hid (fun K e W W' h => @pages_no K frames asks W e W' h hF)
    have HX := Lib.hid (fun W (hb : Below w.heap.size w W) => hx.below hb)
    have HY := Lib.hid (fun W (hb : Below w.heap.size w W) => hy.below hb)
    have HWF := Lib.hid hwf
    have hc0 : (chkP frames asks == 0) = false := by rw [beq_eq_false_iff_ne]; exact hne
    rw [errV_bad hne] at HC
    have HE := Lib.hid (Err1 (chkP frames asks) hne)
    clear hF hx hy hwf hne
    generalize chkP frames asks = c at *
    go_enter Tryd.func3, Tryd.ntmps3
    go_wp2_with fail
    refine HT.out.mono ?_
    rintro e w1 ⟨rfl, rfl⟩
    go_wp2_with fail
    refine HC.out.mono ?_
    rintro e w1 ⟨rfl, rfl⟩
    go_wp2_with fail
    refine (HE.out w hg).mono ?_
    rintro e w1 ⟨rfl, b1⟩
    have hg1 := hg.to b1
    go_wp2_with fail
    refine (Fifo_any frames asks a cap w1 (HX.out w1 b1) hl).mono ?_
    rintro e w2 hres
    obtain ⟨rfl, c2⟩ := HP.out _ _ _ _ hres
    clear hres
    have b2 := b1.trans (c2.mono b1.size)
    have hg2 := hg1.to c2
    go_wp2_with fail
    refine (Lru_any frames asks a cap w2 (HX.out w2 b2) hl).mono ?_
    rintro e w3 hres
    obtain ⟨rfl, c3⟩ := HP.out _ _ _ _ hres
    clear hres
    have b3 := b2.trans (c3.mono b2.size)
    have hg3 := hg2.to c3
    go_wp2_with fail
    refine (Far_any frames asks a cap w3 (HX.out w3 b3) hl hcap hcm).mono ?_
    rintro e w4 hres
    obtain ⟨rfl, c4⟩ := HP.out _ _ _ _ hres
    clear hres
    have b4 := b3.trans (c4.mono b3.size)
    have hg4 := hg3.to c4
    go_wp2_with fail
    refine (Told_any frames asks picks a ap cap capp w4 (HX.out w4 b4) hl (HY.out w4 b4) hl2 HWF.out).mono ?_
    rintro e w5 hres
    obtain ⟨rfl, c5⟩ := HP.out _ _ _ _ hres
    clear hres
    have b5 := b4.trans (c5.mono b4.size)
    have hg5 := hg4.to c5
    go_wp2_with fail
    refine (HE.out w5 hg5).mono ?_
    rintro e w6 ⟨rfl, c6⟩
    have b6 := b5.trans (c6.mono b5.size)
    have hg6 := hg5.to c6
    go_wp2_with fail
    refine (HE.out w6 hg6).mono ?_
    rintro e w7 ⟨rfl, c7⟩
    have b7 := b6.trans (c7.mono b6.size)
    have hg7 := hg6.to c7
    go_wp2_with fail
    refine (HE.out w7 hg7).mono ?_
    rintro e w8 ⟨rfl, c8⟩
    have b8 := b7.trans (c8.mono b7.size)
    have hg8 := hg7.to c8
    go_wp2_with fail
    refine (HE.out w8 hg8).mono ?_
    rintro e w9 ⟨rfl, c9⟩
    have b9 := b8.trans (c9.mono b8.size)
    have hg9 := hg8.to c9
    go_wp2_with fail
    refine (bools_same [] none none 0 0 0 rfl w9 (.inl rfl) (.inl rfl) (by simp)).mono ?_
    rintro e w10 ⟨rfl, q10, hw10⟩
    have c10 : Below w9.heap.size w9 w10 := by rw [hw10]; exact drewN_below (Below.refl _ _) _
    clear hw10
    have b10 := b9.trans (c10.mono b9.size)
    go_wp2_with fail
    refine (bools_same [] none none 0 0 0 rfl w10 (.inl rfl) (.inl rfl) (by simp)).mono ?_
    rintro e w11 ⟨rfl, q11, hw11⟩
    have c11 : Below w10.heap.size w10 w11 := by rw [hw11]; exact drewN_below (Below.refl _ _) _
    clear hw11
    have b11 := b10.trans (c11.mono b10.size)
    go_wp2_with fail
    refine (bools_same [] none none 0 0 0 rfl w11 (.inl rfl) (.inl rfl) (by simp)).mono ?_
    rintro e w12 ⟨rfl, q12, hw12⟩
    have c12 : Below w11.heap.size w11 w12 := by rw [hw12]; exact drewN_below (Below.refl _ _) _
    clear hw12
    have b12 := b11.trans (c12.mono b11.size)
    go_wp2_with fail
    refine (bools_same [] none none 0 0 0 rfl w12 (.inl rfl) (.inl rfl) (by simp)).mono ?_
    rintro e w13 ⟨rfl, q13, hw13⟩
    have c13 : Below w12.heap.size w12 w13 := by rw [hw13]; exact drewN_below (Below.refl _ _) _
    clear hw13
    have b13 := b12.trans (c13.mono b12.size)
    go_wp2
    go_ret
    exact ⟨rfl, b13⟩
end Go.Proofs.YtmlnegcffeghcaaDoor
