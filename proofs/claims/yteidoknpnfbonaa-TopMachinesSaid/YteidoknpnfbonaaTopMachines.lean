/- WALK: the law TopMachines returns true. -/
import Derived.Test.YteidoknpnfbonaaShareLongest
import Derived.Test.YteidoknpnfbonaaWrapLong
namespace Go.Proofs.Yteidoknpnfbonaa
open Go Go.RowKit SharePlain PackPlain ShareLaw SortPlain

set_option maxRecDepth 100000 in
set_option maxHeartbeats 2000000 in
theorem TopMachines_walk (times : List Int) (mach : Int) (a : Option Addr) (cap : Nat) (w : World) (hx : Ints w a times) (hl : times.length ≤ 9223372036854775807) :
    Calls Try.prog 8 #[.slice a times.length cap, .int .i64 mach] w fun e w' => e = .returned (.bool true) ∧ Below w.heap.size w w' := by
  have hr : Row (w.alloc (.cells #[.int .i64 3, .int .i64 1, .int .i64 1] 3)) w.heap.size 3 [3, 1, 1] := heap_alloc_new w _
  have L0 := List_yes [3, 1, 1] 2 (some ⟨w.heap.size, 0, none⟩) 3 _ hr.ints fact_fine
  have hf0 := fact_same
  have HL0 : ∃ F, sameB F [0, 1, 1] = true ∧ F.length ≤ 9223372036854775807 ∧ Calls Try.prog 16 #[.slice (some ⟨w.heap.size, 0, none⟩) 3 3, .int .i64 2] (w.alloc (.cells #[.int .i64 3, .int .i64 1, .int .i64 1] 3)) fun e w' => NewIntsOk F (w.alloc (.cells #[.int .i64 3, .int .i64 1, .int .i64 1] 3)) e w' :=
    ⟨_, hf0, by have := of_decide_eq_true hf0; rw [this]; decide, L0⟩
  clear L0 hf0 hr
  obtain ⟨F, hFs, hFl, L0⟩ := HL0
  have Hf := Lib.hid hFs
  clear hFs
  go_enter Try.func8, Try.ntmps8
  go_wp2_with fail
  refine L0.mono ?_
  clear L0
  rintro e w1 ⟨g, rfl, h1, h2, h3⟩
  have b1 : Below w.heap.size w w1 := ((Below.refl _ _).alloc (Nat.le_refl _) _).trans (h3.mono (by simp))
  go_wp2_with fail
  have hr2 : Row (w1.alloc (.cells #[.int .i64 0, .int .i64 1, .int .i64 1] 3)) w1.heap.size 3 [0, 1, 1] := heap_alloc_new w1 _
  refine (Ints_any F [0, 1, 1] (some ⟨g, 0, none⟩) (some ⟨w1.heap.size, 0, none⟩) _ 3 _ (h2.alloc _).ints hr2.ints hFl).mono ?_
  rintro e w2 ⟨rfl, nn, rfl⟩
  rw [Hf.out]
  have b2 : Below w.heap.size w ((w1.alloc (.cells #[.int .i64 0, .int .i64 1, .int .i64 1] 3)).drewN nn) := drewN_below (b1.alloc (by have := b1.size; omega) _) nn
  clear hr2 h2 h3 b1
  generalize ((w1.alloc (.cells #[.int .i64 0, .int .i64 1, .int .i64 1] 3)).drewN nn) = wz at b2 ⊢
  by_cases hc : chk times mach = 0
  · have hf := chk_fine hc
    clear hc
    obtain ⟨m, rfl, hm1, hm6⟩ := hf.nat
    have hs := hf.short
    go_wp2_with fail
    refine (List_yes times m a cap _ (hx.below b2) hf).mono ?_
    rintro e w3 ⟨g3, rfl, hg3, hrow3, b3⟩
    have b03 := b2.trans (b3.mono b2.size)
    go_wp2_with fail
    refine (Longest_yes times m a cap _ (hx.below b03) hf).mono ?_
    rintro e w4 ⟨ord, hF, g4, rfl, hg4, hrow4, b4⟩
    have b04 := b03.trans (b4.mono b03.size)
    have hrow3' := hrow3.below b4 hrow3.lt
    have hX := give_ok times m hm1 (List.range times.length) (List.Perm.refl _)
    have hXn := give_near times m hm1 (List.range times.length) (List.Perm.refl _) hf.nonneg
    change OnOk times m (listL times m) at hX
    change longOf times (listL times m) m ≤ _ at hXn
    have hXf := fair_le hm1 hX hf.nonneg
    have hY := give_ok times m hm1 ord hF.perm
    have hYn := give_near times m hm1 ord hF.perm hf.nonneg
    have hYf := fair_le hm1 hY hf.nonneg
    have hxl := listL_length times m
    have hyl := giveL_length times ord m
    clear hF hrow3
    generalize listL times m = x at hX hXn hXf hxl hrow3' ⊢
    generalize giveL times ord m = y at hY hYn hYf hyl hrow4 ⊢
    rw [hxl, hyl]
    go_wp2_with fail
    refine (Long_yes times m a cap w4 (hx.below b04) hf).mono ?_
    rintro e w5 ⟨rfl, rfl⟩
    have hL1 := Load_any times x m a (some ⟨g3, 0, none⟩) cap times.length w4 (hx.below b04) hrow3'.ints hf (by omega)
    rw [hxl] at hL1
    go_wp2_with fail
    refine hL1.mono ?_
    rintro e w6 ⟨k, er, rfl, hr, b5⟩
    have he := hr.good.2 hX
    subst he
    have Hk := Lib.hid (hr.long rfl)
    have b05 := b04.trans (b5.mono b04.size)
    have hrow4' := hrow4.below b5 hrow4.lt
    have hL2 := Load_any times y m a (some ⟨g4, 0, none⟩) cap times.length w6 (hx.below b05) hrow4'.ints hf (by omega)
    rw [hyl] at hL2
    clear hr hL1
    rw [errV_ok]
    go_wp2_with fail
    refine hL2.mono ?_
    rintro e w7 ⟨k2, er, rfl, hr, b6⟩
    have he := hr.good.2 hY
    subst he
    have Hk2 := Lib.hid (hr.long rfl)
    have b06 := b05.trans (b6.mono b05.size)
    clear hr hL2
    rw [errV_ok]
    have hx7 := hx.below b06
    have hks := long_small (on := x) hf
    have hks2 := long_small (on := y) hf
    rw [← Hk.out] at hXn hXf hks
    rw [← Hk2.out] at hYn hYf hks2
    have hP : 0 ≤ times.foldl max 0 ∧ times.foldl max 0 ≤ 1000 := by
      refine ⟨(foldl_max times 0).1, ?_⟩
      rcases (foldl_max times 0).2.2 with e | e
      · omega
      · exact (hf.all _ e).2
    have hfo : 0 ≤ fairOf times m := by have := hP.1; unfold fairOf; omega
    clear Hk Hk2 hX hY hxl hyl hrow3' hrow4 hrow4'
    generalize fairOf times m = q at hXn hXf hYn hYf hfo ⊢
    generalize hmo : times.foldl max 0 = mo at hXn hYn hP
    have Hmo := Lib.hid hmo
    have HA := Lib.hid (show k ≤ q + mo ∧ k2 ≤ q + mo ∧ 0 ≤ mo ∧ mo ≤ 1000 from ⟨hXn, hYn, hP.1, hP.2⟩)
    clear hmo hXn hYn hP
    go_wp2
    go_loop [17, 18] (fun mo i => ∃ k : Nat, k ≤ times.length ∧ i = .int .i64 k ∧ mo = .int .i64 ((times.take k).foldl max 0)) (fun _ i => times.length - (intOf i).toNat)
    case atStart => exact ⟨0, Nat.zero_le _, rfl, rfl⟩
    case round =>
      obtain ⟨j, hj, rfl, rfl⟩ := hrel
      rcases Nat.lt_or_ge j times.length with hlt | hge
      · obtain ⟨b, off, rfl, hcs⟩ := hx7.open (by omega)
        have hck := hcs j hlt
        have e2 := foldl_take times j hlt
        clear hcs
        generalize hv : times.getD j 0 = v at hck e2
        generalize hM : (times.take j).foldl max 0 = M0 at e2 ⊢
        have E2 := Lib.hid e2
        clear e2 hv hM
        rcases Int.lt_or_le M0 v with hlv | hlv
        · go_wp2
          go_round
          case rel => exact ⟨j + 1, by omega, by go_num, by rw [E2.out, Int.max_eq_right (by omega)]⟩
          case measure => simp only [intOf]; omega
        · go_wp2
          go_round
          case rel => exact ⟨j + 1, by omega, by go_num, by rw [E2.out, Int.max_eq_left hlv]⟩
          case measure => simp only [intOf]; omega
      · have hjn : j = times.length := by omega
        have e2 : (times.take j).foldl max 0 = mo := by rw [hjn, List.take_length, Hmo.out]
        rw [e2]
        have h3 : ((times.length : Nat) : Int) ≤ (j : Int) := by omega
        obtain ⟨i1, i2, i3, i4⟩ := HA.out
        clear e2 hjn
        go_wp2
        go_ret
        exact ⟨rfl, b06⟩
  · have Hc := Lib.hid hc
    clear hc
    go_wp2_with fail
    refine (List_no times mach a cap _ (hx.below b2) hl Hc.out).mono ?_
    rintro e w3 ⟨rfl, rfl⟩
    go_wp2_with fail
    refine (Longest_no times mach a cap _ (hx.below b2) hl Hc.out).mono ?_
    rintro e w4 ⟨rfl, b4⟩
    have b04 := b2.trans (b4.mono b2.size)
    go_wp2_with fail
    refine (Long_no times mach a cap _ (hx.below b04) hl Hc.out).mono ?_
    rintro e w5 ⟨rfl, rfl⟩
    go_wp2
    go_ret
    exact ⟨rfl, b04⟩
end Go.Proofs.Yteidoknpnfbonaa
