/- WALKS: wrap.Fits at what is refused; the fact; the law WrapFits. -/
import Derived.Test.YteidoknpnfbonaaWrapMake
namespace Go.Proofs.Yteidoknpnfbonaa
open Go Go.RowKit SharePlain PackPlain ShareLaw

theorem Fits_no (times : List Int) (mach : Int) (v : Value) (b : Int) (a : Option Addr) (cap : Nat) (w : World) (hx : Ints w a times) (hl : times.length ≤ 9223372036854775807) (h : chk times mach ≠ 0) :
    Calls Try.prog 12 #[.slice a times.length cap, .int .i64 mach, v, .int .i64 b] w fun e w' => e = .returned (.tuple #[.bool false, .iface 46 (.int .i64 (chk times mach))]) ∧ w = w' := by
  have H := Lib.hid h
  clear h
  go_enter Try.func12, Try.ntmps12
  go_wp2_with (go_at_call 21; refine (check_no times mach a cap _ hx hl H.out).mono ?_; rintro e w' ⟨rfl, rfl⟩)
  go_ret2
  exact ⟨rfl, rfl⟩
theorem Fits_full (times : List Int) (m : Nat) (len : Nat) (b : Int) (a al : Option Addr) (cap capl : Nat) (w : World) (hx : Ints w a times) (hf : Fine times m) (h : 60 < len) :
    Calls Try.prog 12 #[.slice a times.length cap, .int .i64 m, .slice al len capl, .int .i64 b] w fun e w' => e = .returned (.tuple #[.bool false, .iface 46 (.int .i64 4)]) ∧ w = w' := by
  have hs := hf.short
  have hchk := check_yes times m a cap w hx (by omega) (fine_chk hf)
  have hl' : (60 : Int) < ((len : Nat) : Int) := by omega
  go_enter Try.func12, Try.ntmps12
  go_wp2_with fail
  refine hchk.mono ?_
  rintro e w1 ⟨rfl, rfl⟩
  clear hchk
  go_wp2
  go_ret2
  exact ⟨rfl, rfl⟩

def l1 : List Pc := [⟨0, 0, 0, 2⟩]
theorem l1_plan : WrapPlain.Plan [2] 1 l1 2 := by
  refine ⟨by decide, by simp [l1], fun k hk => ?_⟩
  obtain rfl : k = 0 := by simp at hk; omega
  decide
theorem l1_none : ¬ WrapPlain.Plan [2] 1 l1 1 := fun P => by
  have := P.fine ⟨0, 0, 0, 2⟩ (by simp [l1])
  revert this; decide
theorem l1_pcs (w : World) (t : TypeId) (g : Nat) (hg : g = w.heap.size) : Pcs (w.alloc (.cells #[.int .i64 0, .int .i64 0, .int .i64 0, .int .i64 2] t)) (some ⟨g, 0, none⟩) l1 := by
  subst hg
  have hb := heap_alloc_new w (.cells #[.int .i64 0, .int .i64 0, .int .i64 0, .int .i64 2] t)
  refine Or.inr ⟨w.heap.size, 0, rfl, lt_of_block hb, fun i hi => ?_⟩
  obtain rfl : i = 0 := by simp [l1] at hi; omega
  refine ⟨?_, ?_, ?_, ?_⟩ <;> rw [cell_of_cells hb] <;> rfl
theorem one_fine : Fine [2] 1 := ⟨by decide, by decide, by decide, by decide⟩

theorem wrapFact_any (w : World) : Calls Try.prog 11 #[] w fun e w' => e = .returned (.bool true) ∧ Below w.heap.size w w' := by
  go_enter Try.func11, Try.ntmps11
  go_wp2_with fail
  have hr : Row (w.alloc (.cells #[.int .i64 2] 3)) w.heap.size 3 [2] := heap_alloc_new w _
  refine (Fits_any [2] 1 l1 2 (some ⟨w.heap.size, 0, none⟩) (some ⟨w.heap.size + 1, 0, none⟩) 1 1 _ (hr.alloc _).ints (l1_pcs _ _ _ (by simp)) one_fine (by decide) (by decide) (by decide)).mono ?_
  rintro e w1 ⟨is, rfl, h1, h2⟩
  obtain rfl : is = true := h1.2 l1_plan
  clear h1
  have b1 : Below w.heap.size w w1 := (((Below.refl _ _).alloc (Nat.le_refl _) _).alloc (by simp) _).trans (h2.mono (by simp; omega))
  clear h2
  go_wp2_with fail
  have hr2 : Row (w1.alloc (.cells #[.int .i64 2] 3)) w1.heap.size 3 [2] := heap_alloc_new w1 _
  refine (Fits_any [2] 1 l1 1 (some ⟨w1.heap.size, 0, none⟩) (some ⟨w1.heap.size + 1, 0, none⟩) 1 1 _ (hr2.alloc _).ints (l1_pcs _ _ _ (by simp)) one_fine (by decide) (by decide) (by decide)).mono ?_
  rintro e w2 ⟨is, rfl, h1', h2⟩
  have h1 : is = false := by
    cases is
    · rfl
    · exact absurd (h1'.1 rfl) l1_none
  clear h1'
  subst h1
  have b2 : Below w.heap.size w w2 := b1.trans ((((Below.refl _ w1).alloc (Nat.le_refl _) _).alloc (by simp) _).trans (h2.mono (by simp; omega)) |>.mono b1.size)
  clear h2
  go_wp2
  go_ret
  exact ⟨rfl, b2⟩

set_option maxHeartbeats 1000000 in
theorem WrapFits_walk (times : List Int) (mach : Int) (a : Option Addr) (cap : Nat) (w : World) (hx : Ints w a times) (hl : times.length ≤ 9223372036854775807) :
    Calls Try.prog 4 #[.slice a times.length cap, .int .i64 mach] w fun e w' => e = .returned (.bool true) ∧ Below w.heap.size w w' := by
  by_cases hc : chk times mach = 0
  · have hf := chk_fine hc
    clear hc
    obtain ⟨m, rfl, hm1, hm6⟩ := hf.nat
    have hs := hf.short
    go_enter Try.func4, Try.ntmps4
    go_wp2_with fail
    refine (wrapFact_any _).mono ?_
    rintro e w0 ⟨rfl, b0⟩
    go_wp2_with fail
    refine (Long_yes times m a cap _ (hx.below b0) hf).mono ?_
    rintro e w1 ⟨rfl, rfl⟩
    go_wp2_with fail
    refine (Make_yes times m a cap _ (hx.below b0) hf).mono ?_
    rintro e w2 ⟨a2, cap2, l, rfl, O, b2, hP, hn, h0, h1⟩
    have b02 := b0.trans (b2.mono b0.size)
    obtain ⟨hp, hlc⟩ := O.pcs
    have hLs : fairOf times m ≤ 9223372036854775807 := by
      have h2 : times.foldl max 0 ≤ 1000 := by
        rcases (foldl_max times 0).2.2 with e | e
        · omega
        · exact (hf.all _ e).2
      have hsum := hf.sum
      have h3 : (times.sum + m - 1) / m ≤ 16000 := ceil_le times.sum m (by omega) 16000 (by omega)
      unfold fairOf; omega
    have hF := Fits_any times m l (fairOf times m) a a2 cap cap2 _ (hx.below b02) hp hf (by omega) hLs hlc
    generalize fairOf times m = L at hF hP ⊢
    clear O hp h0 h1 b2
    go_wp2_with fail
    refine hF.mono ?_
    rintro e w3 ⟨is, rfl, h1, b3⟩
    obtain rfl : is = true := h1.2 hP
    clear h1
    have b03 := b02.trans (b3.mono b02.size)
    clear hF hP b3
    go_wp2
    go_ret
    exact ⟨rfl, b03⟩
  · have Hc := Lib.hid hc
    clear hc
    go_enter Try.func4, Try.ntmps4
    go_wp2_with fail
    refine (wrapFact_any _).mono ?_
    rintro e w0 ⟨rfl, b0⟩
    go_wp2_with fail
    refine (Long_no times mach a cap _ (hx.below b0) hl Hc.out).mono ?_
    rintro e w1 ⟨rfl, rfl⟩
    go_wp2_with fail
    refine (Make_no times mach a cap _ (hx.below b0) hl Hc.out).mono ?_
    rintro e w1 ⟨rfl, rfl⟩
    go_wp2
    go_ret
    exact ⟨rfl, b0⟩
end Go.Proofs.Yteidoknpnfbonaa
