/- WALKS: ricksteadlaw5.shareFact; the laws ShareGraham, ShareBounds; wrap.Long. -/
import Derived.Test.YteidoknpnfbonaaShareWalks3
namespace Go.Proofs.Yteidoknpnfbonaa
open Go Go.RowKit SharePlain PackPlain ShareLaw

theorem fact_fine : Fine [3, 1, 1] (2 : Nat) := ⟨by decide, by decide, by decide, by decide⟩
theorem fact_same : sameB (listL [3, 1, 1] 2) [0, 1, 1] = true := by decide

theorem shareFact_any (w : World) : Calls Try.prog 15 #[] w fun e w' => e = .returned (.bool true) ∧ Below w.heap.size w w' := by
  go_enter Try.func15, Try.ntmps15
  go_wp2_with fail
  have hr : Row (w.alloc (.cells #[.int .i64 3, .int .i64 1, .int .i64 1] 3)) w.heap.size 3 [3, 1, 1] := heap_alloc_new w _
  refine (List_yes [3, 1, 1] 2 (some ⟨w.heap.size, 0, none⟩) 3 _ hr.ints fact_fine).mono ?_
  rintro e w1 ⟨g, rfl, h1, h2, h3⟩
  have b1 : Below w.heap.size w w1 := ((Below.refl _ _).alloc (Nat.le_refl _) _).trans (h3.mono (by simp))
  have hf := fact_same
  generalize listL [3, 1, 1] 2 = F at h2 hf ⊢
  have hl : F.length ≤ 9223372036854775807 := by
    have := of_decide_eq_true hf
    rw [this]; decide
  have Hf := Lib.hid hf
  clear hf
  go_wp2_with fail
  have hr2 : Row (w1.alloc (.cells #[.int .i64 0, .int .i64 1, .int .i64 1] 3)) w1.heap.size 3 [0, 1, 1] := heap_alloc_new w1 _
  refine (Ints_any F [0, 1, 1] (some ⟨g, 0, none⟩) (some ⟨w1.heap.size, 0, none⟩) _ 3 _ (h2.alloc _).ints hr2.ints hl).mono ?_
  rintro e w2 ⟨rfl, n, rfl⟩
  rw [Hf.out]
  go_wp2
  go_ret
  exact ⟨rfl, drewN_below (b1.alloc (by have := b1.size; omega) _) n⟩

theorem Fine.nat {times : List Int} {mach : Int} (h : Fine times mach) : ∃ m : Nat, mach = m ∧ 1 ≤ m ∧ m ≤ 6 := ⟨mach.toNat, by have := h.r1; omega, by have := h.r1; omega, by have := h.r2; omega⟩
theorem long_small {times on : List Int} {m : Nat} (hf : Fine times m) : 0 ≤ longOf times on m ∧ longOf times on m ≤ 16000 := by
  have h1 := long_sum (times := times) (on := on) (m := m) (by have := hf.r1; omega) hf.nonneg
  have := hf.sum
  omega

set_option maxHeartbeats 1000000 in
theorem ShareGraham_walk (times on : List Int) (mach : Int) (a b : Option Addr) (cap cap' : Nat) (w : World) (hx : Ints w a times) (hy : Ints w b on) (hl : times.length ≤ 9223372036854775807) (hl' : on.length ≤ 9223372036854775807) :
    Calls Try.prog 6 #[.slice a times.length cap, .int .i64 mach, .slice b on.length cap'] w fun e w' => e = .returned (.bool true) ∧ Below w.heap.size w w' := by
  by_cases hc : chk times mach = 0
  · have hf := chk_fine hc
    clear hc
    obtain ⟨m, rfl, hm1, hm6⟩ := hf.nat
    have hs := hf.short
    go_enter Try.func6, Try.ntmps6
    go_wp2_with fail
    refine (shareFact_any _).mono ?_
    rintro e w0 ⟨rfl, b0⟩
    go_wp2_with fail
    refine (List_yes times m a cap _ (hx.below b0) hf).mono ?_
    rintro e w1 ⟨g, rfl, hg, hrow, b1⟩
    have b01 := b0.trans (b1.mono b0.size)
    have hX := give_ok times m hm1 (List.range times.length) (List.Perm.refl _)
    have hG := graham_law times m hm1 (List.range times.length) (List.Perm.refl _) hf.nonneg on
    have hxl := listL_length times m
    have hL1 := Load_any times (listL times m) m a (some ⟨g, 0, none⟩) cap (listL times m).length w1 (hx.below b01) hrow.ints hf (by omega)
    change OnOk times m (listL times m) at hX
    change OnOk times m on → (m : Int) * longOf times (listL times m) m ≤ _ at hG
    generalize listL times m = x at hX hG hxl hL1 hrow ⊢
    rw [hxl] at hL1 ⊢
    clear hxl
    go_wp2_with fail
    refine hL1.mono ?_
    rintro e w2 ⟨n, er, rfl, hr, b2⟩
    have he := hr.good.2 hX
    subst he
    have hn := hr.long rfl
    have hn1 := long_small (on := x) hf
    rw [← hn] at hG hn1
    clear hr hn
    have b02 := b01.trans (b2.mono b01.size)
    rw [errV_ok]
    go_wp2_with fail
    refine (Load_any times on m a b cap cap' w2 (hx.below b02) (hy.below b02) hf hl').mono ?_
    rintro e w3 ⟨k, er, rfl, hr, b3⟩
    have b03 := b02.trans (b3.mono b02.size)
    have p1 : 0 ≤ (m : Int) * n := Int.mul_nonneg (by omega) hn1.1
    have p2 : (m : Int) * n ≤ 6 * 16000 := Int.mul_le_mul (by omega) hn1.2 hn1.1 (by omega)
    by_cases he : er = 0
    · subst he
      have hk := hr.long rfl
      have hk1 := long_small (on := on) hf
      have hG := hG (hr.good.1 rfl)
      rw [← hk] at hG hk1
      clear hr hk
      have p3 : 0 ≤ (2 * (m : Int) - 1) * k := Int.mul_nonneg (by omega) hk1.1
      have p4 : (2 * (m : Int) - 1) * k ≤ 11 * 16000 := Int.mul_le_mul (by omega) hk1.2 hk1.1 (by omega)
      rw [errV_ok]
      go_wp2
      go_ret
      exact ⟨rfl, b03⟩
    · rw [errV_bad he]
      clear hr hG
      go_wp2
      go_ret
      exact ⟨rfl, b03⟩
  · have Hc := Lib.hid hc
    clear hc
    go_enter Try.func6, Try.ntmps6
    go_wp2_with fail
    refine (shareFact_any _).mono ?_
    rintro e w0 ⟨rfl, b0⟩
    go_wp2_with fail
    refine (List_no times mach a cap _ (hx.below b0) hl Hc.out).mono ?_
    rintro e w1 ⟨rfl, rfl⟩
    go_wp2
    go_ret
    exact ⟨rfl, b0⟩
end Go.Proofs.Yteidoknpnfbonaa
