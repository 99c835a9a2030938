/- WALKS: share.Longest; the law ShareLongest. -/
import Derived.Test.YteidoknpnfbonaaShareGraham
import Derived.Test.YteidoknpnfbonaaShareSort
namespace Go.Proofs.Yteidoknpnfbonaa
open Go Go.RowKit SharePlain PackPlain ShareLaw SortPlain

theorem Longest_no (times : List Int) (mach : Int) (a : Option Addr) (cap : Nat) (w : World) (hx : Ints w a times) (hl : times.length ≤ 9223372036854775807) (h : chk times mach ≠ 0) :
    Calls Try.prog 20 #[.slice a times.length cap, .int .i64 mach] w fun e w' => e = .returned (.tuple #[.slice none 0 0, .iface 46 (.int .i64 (chk times mach))]) ∧ Below w.heap.size w w' := by
  have H := Lib.hid h
  clear h
  have hx1 := hx.below ((Below.refl w.heap.size w).alloc (Nat.le_refl _) (.cells #[.slice a times.length cap] 22))
  go_enter Try.func20, Try.ntmps20
  go_wp2_with (go_at_call 21; refine (check_no times mach a cap _ hx1 hl H.out).mono ?_; rintro e w' ⟨rfl, rfl⟩)
  go_ret2
  exact ⟨rfl, (Below.refl _ _).alloc (Nat.le_refl _) _⟩

/-- what Longest makes -/
def LongRes (times : List Int) (m : Nat) (w : World) (e : Ending) (w' : World) : Prop := ∃ ord, Falls times times.length ord ∧ NewIntsOk (giveL times ord m) w e w'
theorem Longest_yes (times : List Int) (m : Nat) (a : Option Addr) (cap : Nat) (w : World) (hx : Ints w a times) (hf : Fine times m) :
    Calls Try.prog 20 #[.slice a times.length cap, .int .i64 m] w fun e w' => LongRes times m w e w' := by
  have hs := hf.short
  have hc := fine_chk hf
  have Hc := Lib.hid hc
  clear hc
  have bw : Below w.heap.size w (w.alloc (.cells #[.slice a times.length cap] 22)) := (Below.refl _ _).alloc (Nat.le_refl _) _
  have hx1 := hx.below bw
  have hcell : Row (w.alloc (.cells #[.slice a times.length cap] 22)) w.heap.size 22 [] ∨ True := Or.inr trivial
  clear hcell
  have hb : (w.alloc (.cells #[.slice a times.length cap] 22)).heap[w.heap.size]? = some (.cells #[.slice a times.length cap] 22 (0, 0)) := heap_alloc_new w _
  obtain ⟨wa, hwa⟩ : ∃ wa, wa = w.alloc (.cells #[.slice a times.length cap] 22) := ⟨_, rfl⟩
  have hwsz : wa.heap.size = w.heap.size + 1 := by rw [hwa]; simp
  rw [← hwa] at bw hx1 hb
  have c0 : wa.cell? ⟨w.heap.size, 0, none⟩ = some (.slice a times.length cap) := cell_of_one hb
  go_enter Try.func20, Try.ntmps20
  go_wp2_with fail
  rw [← hwa]
  refine (check_yes times m a cap _ hx1 (by omega) Hc.out).mono ?_
  rintro e w' ⟨rfl, rfl⟩
  have Hwa := Lib.hid hwa
  clear hwa hb
  go_wp2_with fail
  refine (places_any times.length hs _).mono ?_
  rintro e w1 ⟨g, rfl, h1, h2, h3⟩
  rw [nums_length]
  have hclo : ∀ w', Below g w1 w' → CloAt times a cap w.heap.size w' := fun w' hb' => by
    have hb2 : Below wa.heap.size wa w' := h3.trans (hb'.mono h1)
    refine ⟨hx.below (bw.trans (hb2.mono (by omega))), ?_⟩
    rw [hb2.cell (p := ⟨w.heap.size, 0, none⟩) (by show w.heap.size < wa.heap.size; omega)]; exact c0
  have hnums : nums times.length = asInts (List.range times.length) := rfl
  rw [hnums] at h2
  have S := sortStable_any times a cap w.heap.size g w1 hs hclo h2
  have Hclo := Lib.hid hclo
  clear hnums hclo
  have c1 : w1.cell? ⟨w.heap.size, 0, none⟩ = some (.slice a times.length cap) := (Hclo.out w1 (Below.refl _ _)).2
  go_wp2_with fail
  refine S.mono ?_
  rintro e w2 ⟨ord, rfl, hF, h4, h5⟩
  have c2 : w2.cell? ⟨w.heap.size, 0, none⟩ = some (.slice a times.length cap) := (Hclo.out w2 h5).2
  have hx2 := (Hclo.out w2 h5).1
  have b2 : Below w.heap.size w w2 := bw.trans ((h3.trans (h5.mono h1)).mono (by omega))
  have F := give_any times a cap m ord (some ⟨g, 0, none⟩) times.length w2 hx2 hf h4.ints (by rw [hF.length]; exact hs) hF.lt
  rw [hF.length] at F
  have HF := Lib.hid hF
  clear hF S
  go_wp2_with fail
  refine F.mono ?_
  clear F
  rintro e w3 ⟨g2, rfl, h6, h7, h8⟩
  go_wp2
  go_ret2
  exact ⟨ord, HF.out, g2, rfl, by have := b2.size; omega, h7, b2.trans (h8.mono b2.size)⟩
theorem giveL_length (times : List Int) (ord : List Nat) (m : Nat) : (giveL times ord m).length = times.length := by unfold giveL; rw [giveS_length]; simp

set_option maxHeartbeats 1000000 in
theorem ShareLongest_walk (times on : List Int) (mach : Int) (a b : Option Addr) (cap cap' : Nat) (w : World) (hx : Ints w a times) (hy : Ints w b on) (hl : times.length ≤ 9223372036854775807) (hl' : on.length ≤ 9223372036854775807) :
    Calls Try.prog 10 #[.slice a times.length cap, .int .i64 mach, .slice b on.length cap'] w fun e w' => e = .returned (.bool true) ∧ Below w.heap.size w w' := by
  by_cases hc : chk times mach = 0
  · have hf := chk_fine hc
    clear hc
    obtain ⟨m, rfl, hm1, hm6⟩ := hf.nat
    have hs := hf.short
    go_enter Try.func10, Try.ntmps10
    go_wp2_with fail
    refine (shareFact_any _).mono ?_
    rintro e w0 ⟨rfl, b0⟩
    go_wp2_with fail
    refine (Longest_yes times m a cap _ (hx.below b0) hf).mono ?_
    rintro e w1 ⟨ord, hF, g, rfl, hg, hrow, b1⟩
    have b01 := b0.trans (b1.mono b0.size)
    have hX := give_ok times m hm1 ord hF.perm
    have hG := lpt_law times m hm1 ord hF.perm hf.nonneg hF.mono on
    have hxl := giveL_length times ord m
    have hL1 := Load_any times (giveL times ord m) m a (some ⟨g, 0, none⟩) cap (giveL times ord m).length w1 (hx.below b01) hrow.ints hf (by omega)
    clear hF
    generalize giveL times ord m = x at hX hG hxl hL1 hrow ⊢
    rw [hxl] at hL1 ⊢
    clear hxl
    go_wp2_with fail
    refine hL1.mono ?_
    rintro e w2 ⟨n, er, rfl, hr, b2⟩
    have he := hr.good.2 hX
    subst he
    have hn := hr.long rfl
    have hn1 := long_small (on := x) hf
    rw [← hn] at hG hn1
    clear hr hn hL1
    have b02 := b01.trans (b2.mono b01.size)
    rw [errV_ok]
    go_wp2_with fail
    refine (Load_any times on m a b cap cap' w2 (hx.below b02) (hy.below b02) hf hl').mono ?_
    rintro e w3 ⟨k, er, rfl, hr, b3⟩
    have b03 := b02.trans (b3.mono b02.size)
    have p1 : 0 ≤ 3 * (m : Int) * n := Int.mul_nonneg (by omega) hn1.1
    have p2 : 3 * (m : Int) * n ≤ 18 * 16000 := Int.mul_le_mul (by omega) hn1.2 hn1.1 (by omega)
    by_cases he : er = 0
    · subst he
      have hk := hr.long rfl
      have hk1 := long_small (on := on) hf
      have hG := hG (hr.good.1 rfl)
      rw [← hk] at hG hk1
      clear hr hk
      have p3 : 0 ≤ (4 * (m : Int) - 1) * k := Int.mul_nonneg (by omega) hk1.1
      have p4 : (4 * (m : Int) - 1) * k ≤ 23 * 16000 := Int.mul_le_mul (by omega) hk1.2 hk1.1 (by omega)
      rw [errV_ok]
      go_wp2
      go_ret
      exact ⟨rfl, b03⟩
    · rw [errV_bad he]
      clear hr hG
      go_wp2
      go_ret
      exact ⟨rfl, b03⟩
  · have Hc := Lib.hid hc
    clear hc
    go_enter Try.func10, Try.ntmps10
    go_wp2_with fail
    refine (shareFact_any _).mono ?_
    rintro e w0 ⟨rfl, b0⟩
    go_wp2_with fail
    refine (Longest_no times mach a cap _ (hx.below b0) hl Hc.out).mono ?_
    rintro e w1 ⟨rfl, b1⟩
    go_wp2
    go_ret
    exact ⟨rfl, b0.trans (b1.mono b0.size)⟩
end Go.Proofs.Yteidoknpnfbonaa
