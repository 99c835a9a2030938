/- WALKS: the laws CoinsBest, CoinsAlways, CoinsMore return true and turn nothing that was there. -/
import Derived.Test.YtlmlnfdkikpphaaCoinsWalks4
namespace Go.Proofs.Ytlmlnfdkikpphaa
open Go Go.RowKit CoinsPlain

theorem alw_134 {is : Bool} {least : Nat} (h : AlwOk [1, 3, 4] is least) : is = false ∧ least = 6 := by
  rcases h with ⟨_, _, h⟩ | ⟨h0, h1, h2, h3⟩
  · exact absurd (h 6 (by decide)) (by decide)
  · refine ⟨h0, ?_⟩
    have h1' : (least : Int) ≤ 8 := h1
    rcases Nat.lt_trichotomy least 6 with h | h | h
    · exfalso
      have : least = 0 ∨ least = 1 ∨ least = 2 ∨ least = 3 ∨ least = 4 ∨ least = 5 := by omega
      rcases this with rfl | rfl | rfl | rfl | rfl | rfl <;> exact absurd h2 (by decide)
    · exact h
    · exact absurd (h3 6 h) (by decide)

theorem coinsFact_any (w : World) : Calls Try.prog 6 #[] w fun e w' => e = .returned (.bool true) ∧ Below w.heap.size w w' := by
  go_enter Try.func6, Try.ntmps6
  go_wp2_with fail
  have hr : Row (w.alloc (.cells #[.int .i64 1, .int .i64 3, .int .i64 4] 3)) w.heap.size 3 [1, 3, 4] := heap_alloc_new w _
  refine (Always_yes [1, 3, 4] (some ⟨w.heap.size, 0, none⟩) 3 _ hr.ints (by decide)).mono ?_
  rintro e w1 ⟨is, least, hal, rfl, hbel⟩
  obtain ⟨rfl, rfl⟩ := alw_134 hal
  go_wp2
  go_ret
  exact ⟨rfl, ((Below.refl _ _).alloc (Nat.le_refl _) _).trans (hbel.mono (by simp))⟩

theorem wrt_ok {c m : List Int} (hl : m.length = c.length) (hm : ∀ k ∈ m, 0 ≤ k) (hs : m.sum ≤ 300) : wrt c m = worthL c m := by
  unfold wrt
  rw [if_neg (by simp [hl]), if_pos]
  refine List.all_eq_true.2 fun x hx => ?_
  have h0 := hm x hx
  have h1 : x ≤ m.sum := by
    obtain ⟨k, hk, rfl⟩ := List.mem_iff_getElem.1 hx
    have a := take_sum_le m hm (k + 1)
    have b := take_sum_le m hm k
    rw [sum_take m k hk, List.getD_eq_getElem?_getD, List.getElem?_eq_getElem hk] at a
    simp only [Option.getD_some] at a
    omega
  simp only [Bool.and_eq_true, decide_eq_true_eq]
  omega
theorem wrt_some {c m : List Int} {s : Int} (h : wrt c m = s) (hs : 0 ≤ s) : m.length = c.length ∧ (∀ k ∈ m, 0 ≤ k ∧ k ≤ 300) ∧ worthL c m = s := by
  unfold wrt at h
  by_cases h1 : m.length ≠ c.length
  · rw [if_pos h1] at h; omega
  rw [if_neg h1] at h
  by_cases h2 : (m.all fun k => decide (0 ≤ k) && decide (k ≤ 300)) = true
  · rw [if_pos h2] at h
    refine ⟨by simpa using h1, fun k hk => ?_, h⟩
    have := List.all_eq_true.1 h2 k hk
    simpa using this
  · rw [if_neg h2] at h; omega
theorem sum_le_300 (m : List Int) (h : ∀ k ∈ m, 0 ≤ k ∧ k ≤ 300) : m.sum ≤ 300 * m.length := by
  induction m with
  | nil => simp
  | cons a m ih =>
    have := h a (by simp)
    have := ih (fun k hk => h k (List.mem_cons_of_mem _ hk))
    simp only [List.sum_cons, List.length_cons]; omega

theorem CoinsBest_walk (c m : List Int) (a a' : Option Addr) (cap cap' : Nat) (s : Int) (w : World) (hx : Ints w a c) (hy : Ints w a' m)
    (hl : c.length ≤ 9223372036854775807) (hl' : m.length ≤ 9223372036854775807) :
    Calls Try.prog 4 #[.slice a c.length cap, .int .i64 s, .slice a' m.length cap'] w fun e w' => e = .returned (.bool true) ∧ Below w.heap.size w w' := by
  by_cases hb : bothC c s = 0
  · obtain ⟨hf, s1, s2⟩ := both_fine hb
    have HB := Lib.hid hb
    clear hb
    go_enter Try.func4, Try.ntmps4
    go_wp2_with fail
    refine (coinsFact_any _).mono ?_
    rintro e w0 ⟨rfl, b0⟩
    have hx0 := hx.below b0
    have hy0 := hy.below b0
    go_wp2_with fail
    refine (Best_yes c a cap s _ hx0 HB.out).mono ?_
    rintro e w1 ⟨g1, rfl, hg1, r1, b1⟩
    have b01 := b0.trans (b1.mono b0.size)
    have hx1 := hx.below b01
    go_wp2_with fail
    refine (Greedy_yes c a cap s _ hx1 HB.out).mono ?_
    rintro e w2 ⟨g2, rfl, hg2, r2, b2⟩
    have b02 := b01.trans (b2.mono b01.size)
    have hx2 := hx.below b02
    have r1' := r1.below b2 r1.lt
    -- what the two ways are
    obtain ⟨S, rfl⟩ := Int.eq_ofNat_of_zero_le s1
    rw [Int.toNat_natCast] at r1 r1' ⊢
    obtain ⟨bw, bs⟩ := bst_ok hf.up S
    have bn := bst_nonneg c c.length S
    have bl := bst_length c c.length S
    have gw := grd_worth c hf.up.one c.length hf.up.ne (Nat.le_refl _) (S : Int)
    rw [List.take_length] at gw
    have gn := grd_nonneg c hf.up.ok.pos c.length (Nat.le_refl _) (S : Int) (by omega)
    have gl := grd_length c c.length (S : Int)
    have gs := sum_le_worth c _ hf.up.ok.pos gn gl
    rw [gw] at gs
    have hGF := G_ge_F hf.up S
    have hGdef : G c S = (grd c c.length (S : Int)).sum := rfl
    have hFS := F_le_self c S
    have hany : wrt c m = (S : Int) → F c S ≤ m.sum := fun h => by
      obtain ⟨e1, e2, e3⟩ := wrt_some h (by omega)
      have := F_le_any hf.up.ok c m (fun n hn => hn) (fun k hk => (e2 k hk).1) e1
      rw [e3, Int.toNat_natCast] at this; exact this
    have hsm : wrt c m = (S : Int) → SmallSum m := fun h => by
      obtain ⟨e1, e2, e3⟩ := wrt_some h (by omega)
      exact small_of_nonneg m (fun k hk => (e2 k hk).1) (by have := sum_le_300 m e2; have := hf.short; omega)
    generalize hB : bst c c.length S = B at r1 r1' bw bs bn bl ⊢
    generalize hGr : grd c c.length (S : Int) = R at r2 gw gn gl gs hGdef ⊢
    have wB : wrt c B = S := (wrt_ok bl bn (by omega)).trans bw
    have wR : wrt c R = S := (wrt_ok gl gn (by omega)).trans gw
    have Hall := Lib.hid (And.intro bw (And.intro bs (And.intro bl (And.intro gw (And.intro gl (And.intro hGdef (And.intro wB (And.intro wR (And.intro hB (And.intro hGr (And.intro hany hsm)))))))))))
    have sB : SmallSum B := small_of_nonneg B bn (by omega)
    have sR : SmallSum R := small_of_nonneg R gn (by omega)
    have lB : B.length ≤ 6 := by rw [bl]; exact hf.short
    have lR : R.length ≤ 6 := by rw [gl]; exact hf.short
    have cmp : B.sum ≤ R.sum := by rw [bs, ← hGdef]; exact hGF
    clear bw bs bl gw gl hGdef wB wR hB hGr hany hsm gs hGF hFS
    obtain ⟨-, bs, bl, -, gl, -, wB, wR, -, -, hany, hsm⟩ := Hall.out
    have Hbs := Lib.hid bs
    have HwB := Lib.hid wB
    have HwR := Lib.hid wR
    have Hany := Lib.hid hany
    have Hsm := Lib.hid hsm
    clear bs bl gl wB wR hany hsm
    go_wp2_with fail
    refine (Sum_any B (some ⟨g1, 0, none⟩) _ _ r1'.ints sB (by omega)).mono ?_
    rintro e w3 ⟨rfl, rfl⟩
    go_wp2_with fail
    refine (worth_any c B a _ cap _ _ hx2 r1'.ints hf (by omega)).mono ?_
    rintro e w3 ⟨rfl, b3⟩
    rw [HwB.out]
    have b03 := b02.trans (b3.mono b02.size)
    have hx3 := hx.below b03
    have r2' := r2.below b3 r2.lt
    have r1'' := r1'.below b3 r1'.lt
    go_wp2_with fail
    refine (worth_any c R a _ cap _ _ hx3 r2'.ints hf (by omega)).mono ?_
    rintro e w4 ⟨rfl, b4⟩
    rw [HwR.out]
    have b04 := b03.trans (b4.mono b03.size)
    have r2'' := r2'.below b4 r2'.lt
    go_wp2_with fail
    refine (Sum_any R (some ⟨g2, 0, none⟩) _ _ r2''.ints sR (by omega)).mono ?_
    rintro e w5 ⟨rfl, rfl⟩
    have hx4 := hx.below b04
    have hy4 := hy.below b04
    go_wp2_with fail
    refine (worth_any c m a a' cap cap' _ hx4 hy4 hf hl').mono ?_
    rintro e w5 ⟨rfl, b5⟩
    have b05 := b04.trans (b5.mono b04.size)
    have hy5 := hy.below b05
    by_cases hm : wrt c m = (S : Int)
    · have fin := Hany.out hm
      have hsm := Hsm.out hm
      rw [hm]
      clear hm
      have fin' : B.sum ≤ m.sum := by rw [Hbs.out]; exact fin
      go_wp2_with fail
      refine (Sum_any m a' cap' _ hy5 hsm hl').mono ?_
      rintro e w6 ⟨rfl, rfl⟩
      go_wp2
      go_ret
      exact ⟨rfl, b05⟩
    · have hm' : (wrt c m != (S : Int)) = true := by rw [bne_iff_ne]; exact hm
      clear hm
      go_wp2
      go_ret
      exact ⟨rfl, b05⟩
  · have HB := Lib.hid hb
    clear hb
    go_enter Try.func4, Try.ntmps4
    go_wp2_with fail
    refine (coinsFact_any _).mono ?_
    rintro e w0 ⟨rfl, b0⟩
    have hx0 := hx.below b0
    go_wp2_with fail
    refine (Best_no c a cap s _ hx0 hl HB.out).mono ?_
    rintro e w1 ⟨rfl, rfl⟩
    go_wp2_with fail
    refine (Greedy_no c a cap s _ hx0 hl HB.out).mono ?_
    rintro e w1 ⟨rfl, rfl⟩
    go_wp2
    go_ret
    exact ⟨rfl, b0⟩

theorem bst_small {c : List Int} (hf : Fine c) (S : Nat) (h : S ≤ 300) : SmallSum (bst c c.length S) :=
  small_of_nonneg _ (bst_nonneg c c.length S) (by rw [(bst_ok hf.up S).2]; have := F_le_self c S; omega)
theorem grd_small {c : List Int} (hf : Fine c) (S : Nat) (h : S ≤ 300) : SmallSum (grd c c.length (S : Int)) :=
  small_of_nonneg _ (grd_nonneg c hf.up.ok.pos c.length (Nat.le_refl _) _ (by omega)) (by have := G_le c hf.up S; unfold G gc at this; omega)

theorem SumB {c : List Int} (hf : Fine c) (S : Nat) (h : S ≤ 300) (g cap : Nat) (w : World) (r : Row w g 3 (bst c c.length S)) :
    Calls Try.prog 8 #[.slice (some ⟨g, 0, none⟩) (bst c c.length S).length cap] w fun e w' => e = .returned (.int .i64 (F c S)) ∧ w = w' :=
  (Sum_any _ _ cap w r.ints (bst_small hf S h) (by rw [bst_length]; have := hf.short; omega)).mono fun _ _ ⟨he, hw⟩ => ⟨by rw [he, (bst_ok hf.up S).2], hw⟩
theorem SumG {c : List Int} (hf : Fine c) (S : Nat) (h : S ≤ 300) (g cap : Nat) (w : World) (r : Row w g 3 (grd c c.length (S : Int))) :
    Calls Try.prog 8 #[.slice (some ⟨g, 0, none⟩) (grd c c.length (S : Int)).length cap] w fun e w' => e = .returned (.int .i64 (G c S)) ∧ w = w' :=
  (Sum_any _ _ cap w r.ints (grd_small hf S h) (by rw [grd_length]; have := hf.short; omega)).mono fun _ _ ⟨he, hw⟩ => ⟨he, hw⟩

theorem SumB' {c : List Int} (hf : Fine c) (S : Nat) (h : S ≤ 300) (g cap : Nat) (w : World) (r : Row w g 3 (bst c c.length S)) :
    Calls Try.prog 8 #[.slice (some ⟨g, 0, none⟩) (bst c c.length S).length cap] w fun e w' => e = .returned (.int .i64 (F c S)) ∧ w' = w :=
  (SumB hf S h g cap w r).mono fun _ _ ⟨he, hw⟩ => ⟨he, hw.symm⟩
theorem SumG' {c : List Int} (hf : Fine c) (S : Nat) (h : S ≤ 300) (g cap : Nat) (w : World) (r : Row w g 3 (grd c c.length (S : Int))) :
    Calls Try.prog 8 #[.slice (some ⟨g, 0, none⟩) (grd c c.length (S : Int)).length cap] w fun e w' => e = .returned (.int .i64 (G c S)) ∧ w' = w :=
  (SumG hf S h g cap w r).mono fun _ _ ⟨he, hw⟩ => ⟨he, hw.symm⟩

set_option maxHeartbeats 1000000 in
theorem CoinsAlways_walk (c : List Int) (a : Option Addr) (cap : Nat) (s : Int) (w : World) (hx : Ints w a c)
    (hl : c.length ≤ 9223372036854775807) :
    Calls Try.prog 5 #[.slice a c.length cap, .int .i64 s] w fun e w' => e = .returned (.bool true) ∧ Below w.heap.size w w' := by
  by_cases hc : chk c = 0
  · have hf := chk_fine hc
    have hfl := hf.short
    have HC := Lib.hid hc
    go_enter Try.func5, Try.ntmps5
    clear hc
    go_wp2_with fail
    refine (coinsFact_any _).mono ?_
    rintro e w0 ⟨rfl, b0⟩
    have hx0 := hx.below b0
    go_wp2_with fail
    refine (Always_yes c a cap _ hx0 HC.out).mono ?_
    rintro e w1 ⟨is, least, hal, rfl, b1⟩
    have b01 := b0.trans (b1.mono b0.size)
    have hx1 := hx.below b01
    have HA := Lib.hid hal
    clear hal
    -- the test on the given sum
    have key : ∀ S : Nat, F c S ≠ G c S → is = false ∧ least ≤ S := fun S hS => by
      rcases HA.out with ⟨h1, h2, h3⟩ | ⟨h1, h2, h3, h4⟩
      · exact absurd (always_of hf.up h3 S).symm hS
      · refine ⟨h1, ?_⟩
        rcases Nat.lt_or_ge S least with h | h
        · exact absurd (h4 S h).symm hS
        · exact h
    have Key := Lib.hid key
    clear key
    -- what stands behind that test
    have rest : is = false → 2 < c.length ∧ F c least < G c least ∧ (least : Int) < c.getD (c.length - 1) 0 + c.getD (c.length - 2) 0 ∧ c.getD 2 0 < least := fun h => by
      rcases HA.out with ⟨h1, _, _⟩ | ⟨h1, h2, h3, h4⟩
      · rw [h1] at h; cases h
      · obtain ⟨a, b, d⟩ := kozen_zaks hf.up least h3 h4
        exact ⟨a, h3, d, b⟩
    have Rest := Lib.hid rest
    clear rest
    have hle : least ≤ 120 := by
      rcases HA.out with ⟨h1, h2, _⟩ | ⟨h1, h2, h3, h4⟩
      · omega
      · have := hf.small (c.length - 1) (by have := hf.up.ne; omega); omega
    have z0 : is = true → least = 0 := fun h => by
      rcases HA.out with ⟨h1, h2, _⟩ | ⟨h1, _⟩
      · exact h2
      · rw [h1] at h; cases h
    by_cases hb : bothC c s = 0
    · obtain ⟨_, s1, s2⟩ := both_fine hb
      obtain ⟨S, rfl⟩ := Int.eq_ofNat_of_zero_le s1
      have HB := Lib.hid hb
      clear hb
      go_wp2_with fail
      refine (Best_yes c a cap S _ hx1 HB.out).mono ?_
      rintro e w2 ⟨g1, rfl, hg1, r1, b2⟩
      rw [Int.toNat_natCast] at r1 ⊢
      have b02 := b01.trans (b2.mono b01.size)
      have hx2 := hx.below b02
      go_wp2_with fail
      refine (Greedy_yes c a cap S _ hx2 HB.out).mono ?_
      rintro e w3 ⟨g2, rfl, hg2, r2, b3⟩
      have b03 := b02.trans (b3.mono b02.size)
      have hx3 := hx.below b03
      have r1' := r1.below b3 r1.lt
      go_wp2_with fail
      refine (SumB hf S (by omega) g1 _ _ r1').mono ?_
      rintro e w4 ⟨rfl, rfl⟩
      go_wp2_with fail
      refine (SumG hf S (by omega) g2 _ _ r2).mono ?_
      rintro e w4 ⟨rfl, rfl⟩
      have hxz := hx3
      have bz := b03
      clear hx3 b03
      have hdec : (F c S != G c S) = false ∨ ((F c S != G c S) = true ∧ is = false ∧ least ≤ S) := by
        by_cases e : F c S = G c S
        · left; rw [bne_eq_false_iff_eq]; exact e
        · right; exact ⟨by rw [bne_iff_ne]; exact e, Key.out S e⟩
      rcases hdec with hd | ⟨hd, rfl, hd2⟩
      · cases is
        · obtain ⟨k2, k1, k3, k4⟩ := Rest.out rfl
          have HL : Hid (bothC c (least : Int) = 0) := by
            show bothC c (least : Int) = 0
            unfold bothC
            rw [if_neg (by simp [HC.out]), if_neg (by omega)]
          go_wp2_with fail
          refine (Best_yes c a cap least _ hxz HL.out).mono ?_
          rintro e w4 ⟨g3, rfl, hg3, r3, b4⟩
          rw [Int.toNat_natCast] at r3 ⊢
          have bz4 := bz.trans (b4.mono bz.size)
          have hx4 := hxz.below b4
          go_wp2_with fail
          refine (Greedy_yes c a cap least _ hx4 HL.out).mono ?_
          rintro e w5 ⟨g4, rfl, hg4, r4, b5⟩
          have bz5 := bz4.trans (b5.mono bz4.size)
          have hx5 := hx4.below b5
          have r3' := r3.below b5 r3.lt
          obtain ⟨b, off, rfl, hcell⟩ := hx5.open (by omega)
          have d1 := hcell (c.length - 1) (by omega)
          have d2 := hcell (c.length - 2) (by omega)
          have d3 := hcell 2 (by omega)
          have e1 := hf.small (c.length - 1) (by omega)
          have e2 := hf.small (c.length - 2) (by omega)
          have e3 := hf.up.ge1 (c.length - 1) (by omega)
          have e4 := hf.up.ge1 (c.length - 2) (by omega)
          clear hcell
          generalize c.getD (c.length - 1) 0 = v1 at d1 e1 e3 k3
          generalize c.getD (c.length - 2) 0 = v2 at d2 e2 e4 k3
          generalize c.getD 2 0 = v3 at d3 k4
          have k2' : (3 : Int) ≤ c.length := by omega
          go_wp2_with fail
          go_quiet ((first
            | (go_at_call 8; with_reducible exact Calls.quiet_of_same (SumB' hf least (by omega) g3 _ _ (r3'.drewN _)))
            | (go_at_call 8; with_reducible exact Calls.quiet_of_same (SumG' hf least (by omega) g4 _ _ (r4.drewN _)))))
          go_wp2
          go_ret
          exact ⟨rfl, drewN_below bz5 nq⟩
        · obtain rfl := z0 rfl
          go_wp2
          go_ret
          exact ⟨rfl, bz⟩
      · obtain ⟨k2, k1, k3, k4⟩ := Rest.out rfl
        have HL : Hid (bothC c (least : Int) = 0) := by
          show bothC c (least : Int) = 0
          unfold bothC
          rw [if_neg (by simp [HC.out]), if_neg (by omega)]
        go_wp2_with fail
        refine (Best_yes c a cap least _ hxz HL.out).mono ?_
        rintro e w4 ⟨g3, rfl, hg3, r3, b4⟩
        rw [Int.toNat_natCast] at r3 ⊢
        have bz4 := bz.trans (b4.mono bz.size)
        have hx4 := hxz.below b4
        go_wp2_with fail
        refine (Greedy_yes c a cap least _ hx4 HL.out).mono ?_
        rintro e w5 ⟨g4, rfl, hg4, r4, b5⟩
        have bz5 := bz4.trans (b5.mono bz4.size)
        have hx5 := hx4.below b5
        have r3' := r3.below b5 r3.lt
        obtain ⟨b, off, rfl, hcell⟩ := hx5.open (by omega)
        have d1 := hcell (c.length - 1) (by omega)
        have d2 := hcell (c.length - 2) (by omega)
        have d3 := hcell 2 (by omega)
        have e1 := hf.small (c.length - 1) (by omega)
        have e2 := hf.small (c.length - 2) (by omega)
        have e3 := hf.up.ge1 (c.length - 1) (by omega)
        have e4 := hf.up.ge1 (c.length - 2) (by omega)
        clear hcell
        generalize c.getD (c.length - 1) 0 = v1 at d1 e1 e3 k3
        generalize c.getD (c.length - 2) 0 = v2 at d2 e2 e4 k3
        generalize c.getD 2 0 = v3 at d3 k4
        have k2' : (3 : Int) ≤ c.length := by omega
        go_wp2_with fail
        go_quiet ((first
          | (go_at_call 8; with_reducible exact Calls.quiet_of_same (SumB' hf least (by omega) g3 _ _ (r3'.drewN _)))
          | (go_at_call 8; with_reducible exact Calls.quiet_of_same (SumG' hf least (by omega) g4 _ _ (r4.drewN _)))))
        go_wp2
        go_ret
        exact ⟨rfl, drewN_below bz5 nq⟩
    · have hxz := hx1
      have bz := b01
      clear hx1 b01
      have HB := Lib.hid hb
      clear hb
      go_wp2_with fail
      refine (Best_no c a cap s _ hxz hl HB.out).mono ?_
      rintro e w2 ⟨rfl, rfl⟩
      go_wp2_with fail
      refine (Greedy_no c a cap s _ hxz hl HB.out).mono ?_
      rintro e w2 ⟨rfl, rfl⟩
      cases is
      · obtain ⟨k2, k1, k3, k4⟩ := Rest.out rfl
        have HL : Hid (bothC c (least : Int) = 0) := by
          show bothC c (least : Int) = 0
          unfold bothC
          rw [if_neg (by simp [HC.out]), if_neg (by omega)]
        go_wp2_with fail
        refine (Best_yes c a cap least _ hxz HL.out).mono ?_
        rintro e w4 ⟨g3, rfl, hg3, r3, b4⟩
        rw [Int.toNat_natCast] at r3 ⊢
        have bz4 := bz.trans (b4.mono bz.size)
        have hx4 := hxz.below b4
        go_wp2_with fail
        refine (Greedy_yes c a cap least _ hx4 HL.out).mono ?_
        rintro e w5 ⟨g4, rfl, hg4, r4, b5⟩
        have bz5 := bz4.trans (b5.mono bz4.size)
        have hx5 := hx4.below b5
        have r3' := r3.below b5 r3.lt
        obtain ⟨b, off, rfl, hcell⟩ := hx5.open (by omega)
        have d1 := hcell (c.length - 1) (by omega)
        have d2 := hcell (c.length - 2) (by omega)
        have d3 := hcell 2 (by omega)
        have e1 := hf.small (c.length - 1) (by omega)
        have e2 := hf.small (c.length - 2) (by omega)
        have e3 := hf.up.ge1 (c.length - 1) (by omega)
        have e4 := hf.up.ge1 (c.length - 2) (by omega)
        clear hcell
        generalize c.getD (c.length - 1) 0 = v1 at d1 e1 e3 k3
        generalize c.getD (c.length - 2) 0 = v2 at d2 e2 e4 k3
        generalize c.getD 2 0 = v3 at d3 k4
        have k2' : (3 : Int) ≤ c.length := by omega
        go_wp2_with fail
        go_quiet ((first
          | (go_at_call 8; with_reducible exact Calls.quiet_of_same (SumB' hf least (by omega) g3 _ _ (r3'.drewN _)))
          | (go_at_call 8; with_reducible exact Calls.quiet_of_same (SumG' hf least (by omega) g4 _ _ (r4.drewN _)))))
        go_wp2
        go_ret
        exact ⟨rfl, drewN_below bz5 nq⟩
      · obtain rfl := z0 rfl
        go_wp2
        go_ret
        exact ⟨rfl, bz⟩
  · have HC := Lib.hid hc
    clear hc
    go_enter Try.func5, Try.ntmps5
    go_wp2_with fail
    refine (coinsFact_any _).mono ?_
    rintro e w0 ⟨rfl, b0⟩
    have hx0 := hx.below b0
    go_wp2_with fail
    refine (Always_no c a cap _ hx0 hl HC.out).mono ?_
    rintro e w1 ⟨rfl, rfl⟩
    go_wp2
    go_ret
    exact ⟨rfl, b0⟩
end Go.Proofs.Ytlmlnfdkikpphaa
