/- WALKS: lists of pieces held side by side; the law WrapSays. -/
import Derived.Test.YtomgcfjdmoefgaaDoorRefPlan
import Derived.Test.YtomgcfjdmoefgaaDoorRefShare
import Derived.Test.YtomgcfjdmoefgaaDoorErr
import Derived.Laws.StructEq
namespace Go.Proofs.YtomgcfjdmoefgaaDoor
open Go Go.RowKit SharePlain PackPlain ShareLaw

theorem piece_guard (op : BinOp) (x y : Operand) (xs ys : Array Value) (w : World) : (eqGuard op 80 x y (.agg xs) (.agg ys)).run Tryd.prog w = .ok () w := run_eqGuard_agg w op _ x y xs ys (by kernel_rfl)
theorem piece_neq (m j f t : Int) (w : World) : (binOp .neq 80 (.agg #[.int .i64 m, .int .i64 j, .int .i64 f, .int .i64 t]) (.agg #[.int .i64 m, .int .i64 j, .int .i64 f, .int .i64 t])).run Tryd.prog w = .ok (.bool false) w := by
  have u3 := Tryd.underlying3
  have a3 := Tryd.isAgg3
  have z3 := Tryd.sizeOf3
  have hS : Tryd.prog.underlying 80 = some (.struct (Tryd.prog.fieldsOf 80)) := by kernel_rfl
  have hp : Tryd.prog.stoodInHeld 80 = false := by kernel_rfl
  rw [run_neq_struct, show (10000 : Nat) = 9999 + 1 from rfl, run_equalIn_agg w 9999 80 _ _ hS hp]
  simp only [Program.fieldsOf, Tryd.underlying80]
  go_simp
set_option maxHeartbeats 1000000 in
theorem pieces_same (l : List Pc) (a b : Option Addr) (n cap cap' : Nat) (hn : n = l.length) (w : World) (hx : Pcs w a l) (hy : Pcs w b l) (hl : l.length ≤ 100000) :
    Calls Tryd.prog 15 #[.slice a n cap, .slice b n cap'] w fun e w' => e = .returned (.bool true) ∧ ∃ q, w' = w.drewN q := by
  subst hn
  have hne : ((l.length : Int) != (l.length : Int)) = false := by simp
  have hgd := piece_guard
  have hnq := piece_neq
  go_enter Tryd.func15, Tryd.ntmps15
  go_wp2
  go_loopw [5] (fun i wr => ∃ k : Nat, i = .int .i64 k ∧ k ≤ l.length ∧ ∃ q, wr = w.drewN q) (fun i _ => l.length - (intOf i).toNat)
  case atStart => exact ⟨0, rfl, Nat.zero_le _, 0, rfl⟩
  case round =>
    obtain ⟨k, rfl, hk, q, rfl⟩ := hrel
    rcases Nat.lt_or_ge k l.length with hlt | hge
    · rcases hx with h | ⟨ba, oa, rfl, _, hca⟩
      · rw [h] at hlt; simp at hlt
      rcases hy with h | ⟨bb, ob, rfl, _, hcb⟩
      · rw [h] at hlt; simp at hlt
      obtain ⟨x1, x2, x3, x4⟩ := hca k hlt
      obtain ⟨y1, y2, y3, y4⟩ := hcb k hlt
      have hkI : (k : Int) < (l.length : Int) := by omega
      clear hca hcb
      generalize l.getD k p0 = p at *
      obtain ⟨pm, pj, pf, pt⟩ := p
      simp only at x1 x2 x3 x4 y1 y2 y3 y4
      go_wp2
      go_quiet (fail)
      go_wp2
      go_roundw
      case rel => exact ⟨k + 1, by go_num, by omega, _, by first | rfl | rw [World.drewN_drewN]⟩
      case measure => simp only [intOf]; omega
    · obtain rfl : l.length = k := by omega
      have h3 : decide (l.length < l.length) = false := by simp
      go_wp2
      go_ret
      exact ⟨rfl, q, rfl⟩

theorem Err0 (w : World) (hg : Handle w) : Calls Tryd.prog 13 #[.nilIface, .int .i64 0] w fun e w' => e = .returned (.bool true) ∧ Below w.heap.size w w' := Error_any 0 0 w hg
theorem Err1 (n : Int) (hn : n ≠ 0) (w : World) (hg : Handle w) : Calls Tryd.prog 13 #[.iface 81 (.int .i64 n), .int .i64 n] w fun e w' => e = .returned (.bool true) ∧ Below w.heap.size w w' := by
  have := Error_any n n w hg
  rw [errV_bad hn] at this
  exact this.mono fun e w' h => ⟨by rw [h.1]; simp, h.2⟩
theorem Fits_no (times : List Int) (mach b : Int) (a al : Option Addr) (cap n capl : Nat) (w : World) (hx : Ints w a times) (hl : times.length ≤ 9223372036854775807) (h : chk times mach ≠ 0) :
    Calls Tryd.prog 17 #[.slice a times.length cap, .int .i64 mach, .slice al n capl, .int .i64 b] w fun e w' => e = .returned (.tuple #[.bool false, .iface 81 (.int .i64 (chk times mach))]) ∧ w = w' := by
  have H := Lib.hid h
  clear h
  go_enter Tryd.func17, Tryd.ntmps17
  go_wp2_with fail
  refine (check_no times mach a cap _ hx hl H.out).mono ?_
  rintro e w' ⟨rfl, rfl⟩
  go_wp2
  go_ret2
  exact ⟨rfl, rfl⟩
theorem Fits_full (times : List Int) (mach b : Int) (a al : Option Addr) (cap n capl : Nat) (w : World) (hx : Ints w a times) (hl : times.length ≤ 9223372036854775807) (h : chk times mach = 0) (hn : 60 < n) :
    Calls Tryd.prog 17 #[.slice a times.length cap, .int .i64 mach, .slice al n capl, .int .i64 b] w fun e w' => e = .returned (.tuple #[.bool false, .iface 81 (.int .i64 4)]) ∧ w = w' := by
  have H := Lib.hid h
  have hnI : (60 : Int) < (n : Int) := by omega
  clear h
  go_enter Tryd.func17, Tryd.ntmps17
  go_wp2_with fail
  refine (check_yes times mach a cap _ hx hl H.out).mono ?_
  rintro e w' ⟨rfl, rfl⟩
  go_wp2
  go_ret2
  exact ⟨rfl, rfl⟩

set_option maxRecDepth 100000 in
set_option maxHeartbeats 4000000 in
theorem WrapSays_walk (times : List Int) (l : List Pc) (mach b : Int) (a al : Option Addr) (cap capl : Nat) (w : World) (hx : Ints w a times) (hp : Pcs w al l) (hl : times.length ≤ 9223372036854775807) (hl' : l.length ≤ 9223372036854775807) (hcap : l.length ≤ capl) (hb : b ≤ 9223372036854775807) (hg : Handle w) :
    Calls Tryd.prog 3 #[.slice a times.length cap, .int .i64 mach, .slice al l.length capl, .int .i64 b] w fun e w' => e = .returned (.bool true) ∧ Below w.heap.size w w' := by
  have HT := Lib.hid (rtimes_any times mach a cap w hx hl)
  by_cases hc : chk times mach = 0
  · have hf := chk_fine hc
    obtain ⟨m, rfl⟩ := Int.eq_ofNat_of_zero_le (show 0 ≤ mach by have := hf.r1; omega)
    rw [hc] at HT
    have Hf := Lib.hid hf
    have Hc := Lib.hid hc
    clear hf hc
    go_enter Tryd.func3, Tryd.ntmps3
    go_wp2_with fail
    refine HT.out.mono ?_
    rintro e w1 ⟨rfl, rfl⟩
    go_wp2_with fail
    refine (rlong_any times m a cap w hx Hf.out).mono ?_
    rintro e w1 ⟨rfl, rfl⟩
    go_wp2_with fail
    refine (rwrap_any times m a cap w hx Hf.out).mono ?_
    rintro e w1 ⟨a1, cap1, l1, rfl, ho1, b1, x1, hr1⟩
    have hg1 := hg.to b1
    have HP1 := Lib.hid ho1.pcs.1
    have HR1 := Lib.hid hr1
    clear ho1 hr1
    go_wp2_with fail
    refine (Long_yes times m a cap w1 (hx.below b1) Hf.out).mono ?_
    rintro e w2 ⟨rfl, rfl⟩
    go_wp2_with fail
    refine (Err0 w1 hg1).mono ?_
    rintro e w2 ⟨rfl, b2⟩
    have b02 := b1.trans (b2.mono b1.size)
    have hg2 := hg1.to b2
    go_wp2_with fail
    refine (Make_yes times m a cap w2 (hx.below b02) Hf.out).mono ?_
    rintro e w3 ⟨a3, cap3, l3, rfl, ho3, b3, hpl, hcnt, _, _, x3, hr3⟩
    have b03 := b02.trans (b3.mono b02.size)
    have hg3 := hg2.to b3
    obtain rfl : l3 = l1 := hr3.unique HR1.out
    have HP3 := Lib.hid ho3.pcs.1
    have hlen3 : l3.length ≤ 100000 := by
      have h1 := Hf.out.short
      have h2 := Hf.out.r2
      omega
    have HPS := Lib.hid (fun W (hb : Below w3.heap.size w3 W) => pieces_same l3 a3 a1 l3.length cap3 cap1 rfl W (HP3.out.below hb) ((HP1.out.below (b2.trans (b3.mono b2.size))).below hb) hlen3)
    clear ho3 hpl hcnt hr3 HR1 HP1 HP3
    have hbe : ((fairOf times m : Int) == fairOf times m) = true := by simp
    go_wp2_with fail
    refine (Err0 w3 hg3).mono ?_
    rintro e w4 ⟨rfl, b4⟩
    have b04 := b03.trans (b4.mono b03.size)
    have hg4 := hg3.to b4
    go_wp2_with fail
    refine (HPS.out w4 b4).mono ?_
    rintro e w5 ⟨rfl, q5, rfl⟩
    have b05 := drewN_below b04 q5
    have hg5 : Handle (w4.drewN q5) := hg4
    generalize w4.drewN q5 = w5 at *
    clear HPS hbe
    rcases Nat.lt_or_ge 60 l.length with h60 | h60
    · have h60I : (60 : Int) < (l.length : Int) := by omega
      go_wp2_with fail
      refine (Fits_full times m b a al cap l.length capl w5 (hx.below b05) hl Hc.out h60).mono ?_
      rintro e w6 ⟨rfl, rfl⟩
      go_wp2_with fail
      refine (Err1 4 (by decide) w5 hg5).mono ?_
      rintro e w6 ⟨rfl, b6⟩
      have b06 := b05.trans (b6.mono b05.size)
      go_wp2
      go_ret
      exact ⟨rfl, b06⟩
    · have h60I : (l.length : Int) ≤ 60 := by omega
      go_wp2_with fail
      refine (rplan_any times m l b a al cap capl w5 (hx.below b05) (hp.below b05) Hf.out h60 hb).mono ?_
      rintro e w6 ⟨is, rfl, hi, b6⟩
      have b06 := b05.trans (b6.mono b05.size)
      have hg6 := hg5.to b6
      have HI := Lib.hid hi
      clear hi
      go_wp2_with fail
      refine (Fits_any times m l b a al cap capl w6 (hx.below b06) (hp.below b06) Hf.out h60 hb hcap).mono ?_
      rintro e w7 ⟨is2, rfl, hi2, b7⟩
      have b07 := b06.trans (b7.mono b06.size)
      have hg7 := hg6.to b7
      obtain rfl : is2 = is := by
        rw [Bool.eq_iff_iff, hi2, HI.out]
      clear hi2 HI
      go_wp2_with fail
      refine (Err0 w7 hg7).mono ?_
      rintro e w8 ⟨rfl, b8⟩
      have b08 := b07.trans (b8.mono b07.size)
      have hbe : (is2 == is2) = true := by simp
      go_wp2
      go_ret
      exact ⟨by first | rfl | simp, b08⟩
  · have HLg := Lib.hid (fun W (hb : Below w.heap.size w W) => Long_no times mach a cap W (hx.below hb) hl hc)
    have HMk := Lib.hid (fun W (hb : Below w.heap.size w W) => Make_no times mach a cap W (hx.below hb) hl hc)
    have HFi := Lib.hid (fun W (hb : Below w.heap.size w W) => Fits_no times mach b a al cap l.length capl W (hx.below hb) hl hc)
    have HE := Lib.hid (Err1 (chk times mach) hc)
    have hc0 : (chk times mach == 0) = false := by rw [beq_eq_false_iff_ne]; exact hc
    clear hc
    generalize chk times mach = c at *
    go_enter Tryd.func3, Tryd.ntmps3
    go_wp2_with fail
    refine HT.out.mono ?_
    rintro e w1 ⟨rfl, rfl⟩
    go_wp2_with fail
    refine (HLg.out w (Below.refl _ _)).mono ?_
    rintro e w1 ⟨rfl, rfl⟩
    go_wp2_with fail
    refine (HE.out w hg).mono ?_
    rintro e w1 ⟨rfl, b1⟩
    have hg1 := hg.to b1
    go_wp2_with fail
    refine (HMk.out w1 b1).mono ?_
    rintro e w2 ⟨rfl, rfl⟩
    go_wp2_with fail
    refine (HE.out w1 hg1).mono ?_
    rintro e w3 ⟨rfl, b3⟩
    have b03 := b1.trans (b3.mono b1.size)
    have hg3 := hg1.to b3
    go_wp2_with fail
    refine (pieces_same [] none none 0 0 0 rfl w3 (.inl rfl) (.inl rfl) (by simp)).mono ?_
    rintro e w4 ⟨rfl, q4, rfl⟩
    have b04 := drewN_below b03 q4
    have hg4 : Handle (w3.drewN q4) := hg3
    generalize w3.drewN q4 = w4 at *
    go_wp2_with fail
    refine (HFi.out w4 b04).mono ?_
    rintro e w5 ⟨rfl, rfl⟩
    go_wp2_with fail
    refine (HE.out w4 hg4).mono ?_
    rintro e w6 ⟨rfl, b6⟩
    have b06 := b04.trans (b6.mono b04.size)
    go_wp2
    go_ret
    exact ⟨rfl, b06⟩
end Go.Proofs.YtomgcfjdmoefgaaDoor
