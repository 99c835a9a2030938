/- WALKS: the laws SackHalf, SackBest. -/
import Derived.Test.YteoijalamhbkiaaSackBest2
import Derived.Test.YteoijalamhbkiaaSackHalf
import Derived.Test.YteoijalamhbkiaaSackCutLaw
import Derived.Test.YteoijalamhbkiaaBoolsOpen
namespace Go.Proofs.Yteoijalamhbkiaa
open Go Go.RowKit SackPlain
open SortPlain (asInts asInts_length)

set_option maxHeartbeats 2000000 in
theorem SackHalf_walk (l : List Gd) (room : Int) (a : Option Addr) (cap : Nat) (w : World) (hx : Goods w a l) (hl : l.length ≤ 9223372036854775807) :
    Calls Try.prog 5 #[.slice a l.length cap, .int .i64 room] w fun e w' => e = .returned (.bool true) ∧ Below w.heap.size w w' := by
  by_cases hc : chkG l room = 0
  · have hf := chkG_fine hc
    clear hc
    obtain ⟨R, rfl⟩ := Int.eq_ofNat_of_zero_le hf.r0
    go_enter Try.func5, Try.ntmps5
    go_wp2_with fail
    refine (sackFact_any _).mono ?_
    rintro e w0 ⟨rfl, b0⟩
    go_wp2_with fail
    refine (BestG_yes l R a cap _ (hx.below b0) hf).mono ?_
    rintro e w1 ⟨aB, capB, rfl, hB, b1⟩
    have b01 := b0.trans (b1.mono b0.size)
    go_wp2_with fail
    refine (HalfG_yes l R a cap _ (hx.below b01) hf).mono ?_
    rintro e w2 ⟨ord, one, some_, rfl, hF, hH, hO, b2⟩
    have b02 := b01.trans (b2.mono b01.size)
    have hs : ord.Pairwise (Dear (wOf l) (vOf l)) := hF.sorted.imp fun h => dearR_dear h
    have key := half_most hf.ok hF.perm hs hf.r0 hH (one := one) (fun i h1 h2 => hO.2.2 i h1 h2) hO.2.1
    have hm0 := most_nonneg l (fun g hg => (hf.ok.all g hg).2.2.1) R
    have hmL := most_le l 1000 (by decide) (fun g hg => (hf.ok.all g hg).2.2.2) R
    have hsh := hf.ok.short
    have hone : one ≤ most l R := by
      rcases hO.1 with e | ⟨i, h1, h2, h3⟩
      · omega
      · have := set_le_most hf.ok (A := [i]) hf.r0 (by simp) (fun j hj => by simp at hj; omega) (by rw [S_cons, S_nil]; omega)
        rw [S_cons, S_nil] at this; omega
    have ho0 := hO.2.1
    go_wp2_with fail
    refine (CutG_yes l R a cap _ (hx.below b02) hf).mono ?_
    rintro e w3 ⟨ord2, whole, part, of_, rfl, hF2, hC, ⟨q1, q2, q3, q4, q5, q6⟩, b3⟩
    have b03 := b02.trans (b3.mono b02.size)
    have key2 := cut_most hf.ok hF2.perm (hF2.sorted.imp fun h => dearR_dear h) hf.r0 hC
    have m1 := mul_range2 hm0 (show most l R ≤ 16000 by omega) (show 0 ≤ of_ by omega) q6
    have m2 := mul_range2 q1 q2 (show 0 ≤ of_ by omega) q6
    obtain ⟨m1a, m1b⟩ := m1
    obtain ⟨m2a, m2b⟩ := m2
    obtain ⟨k1, k2⟩ := key
    have hmx0 : 0 ≤ max one some_ := by omega
    have hmx1 : max one some_ ≤ most l R := by omega
    have hmx2 : most l R ≤ 2 * max one some_ := by omega
    have hm16 : most l R ≤ 16000 := by omega
    clear hF hH hO hs hF2 hC hB b1 b2 b3 hone ho0 k1 k2 hmL
    generalize max one some_ = h at hmx0 hmx1 hmx2
    generalize most l R = M at *
    go_wp2
    go_ret
    exact ⟨rfl, b03⟩
  · have Hc := Lib.hid hc
    clear hc
    go_enter Try.func5, Try.ntmps5
    go_wp2_with fail
    refine (sackFact_any _).mono ?_
    rintro e w0 ⟨rfl, b0⟩
    go_wp2_with fail
    refine (BestG_no l room a cap _ (hx.below b0) hl Hc.out).mono ?_
    rintro e w1 ⟨rfl, b1⟩
    have b01 := b0.trans (b1.mono b0.size)
    go_wp2_with fail
    refine (HalfG_no l room a cap _ (hx.below b01) hl Hc.out).mono ?_
    rintro e w2 ⟨rfl, b2⟩
    have b02 := b01.trans (b2.mono b01.size)
    go_wp2_with fail
    refine (CutG_no l room a cap _ (hx.below b02) hl Hc.out).mono ?_
    rintro e w3 ⟨rfl, b3⟩
    have b03 := b02.trans (b3.mono b02.size)
    go_wp2
    go_ret
    exact ⟨rfl, b03⟩

theorem chosen_weigh (l : List Gd) (bs : List Bool) : S (wOf l) (chosen bs l.length) = weigh l bs := by
  rw [weigh_eq]; exact (S_filter (wOf l) (fun i => bs.getD i false) (List.range l.length)).symm
theorem chosen_worth (l : List Gd) (bs : List Bool) : S (vOf l) (chosen bs l.length) = worth l bs := by
  rw [worth_eq]; exact (S_filter (vOf l) (fun i => bs.getD i false) (List.range l.length)).symm
theorem chosen_lt (bs : List Bool) (n : Nat) : ∀ i ∈ chosen bs n, i < n := fun i hi => List.mem_range.1 (List.mem_filter.1 hi).1
theorem chosen_up (bs : List Bool) (n : Nat) : (chosen bs n).Pairwise (· < ·) := List.pairwise_lt_range.filter _

set_option maxRecDepth 100000 in
set_option maxHeartbeats 4000000 in
theorem SackBest_walk (l : List Gd) (other : List Bool) (room : Int) (a b : Option Addr) (cap cap' : Nat) (w : World) (hx : Goods w a l) (hl : l.length ≤ 9223372036854775807) (hy : Bools w b other) (hl' : other.length ≤ 9223372036854775807) :
    Calls Try.prog 4 #[.slice a l.length cap, .int .i64 room, .slice b other.length cap'] w fun e w' => e = .returned (.bool true) ∧ Below w.heap.size w w' := by
  by_cases hc : chkG l room = 0
  · have hf := chkG_fine hc
    clear hc
    obtain ⟨R, rfl⟩ := Int.eq_ofNat_of_zero_le hf.r0
    have hs := hf.ok.short
    have r1 := hf.r1
    go_enter Try.func4, Try.ntmps4
    go_wp2_with fail
    refine (sackFact_any _).mono ?_
    rintro e w0 ⟨rfl, b0⟩
    go_wp2_with fail
    refine (BestG_yes l R a cap _ (hx.below b0) hf).mono ?_
    rintro e w1 ⟨aB, capB, rfl, hB, b1⟩
    have b01 := b0.trans (b1.mono b0.size)
    have hx1 := hx.below b01
    have hy1 := hy.below b01
    have hcw := chosen_weigh l (told l (R : Int))
    have hcv := chosen_worth l (told l (R : Int))
    have hclt := chosen_lt (told l (R : Int)) l.length
    have hcup := chosen_up (told l (R : Int)) l.length
    have hcl := chosen_length (told l (R : Int)) l.length
    have htw := told_weigh l (R : Int) hf.r0
    have htv := told_worth l (R : Int)
    have hbest := fun h => most_best l (fun g hg => by have := hf.ok.all g hg; omega) (R : Int) other hf.r0 h
    have hm0 := most_nonneg l (fun g hg => (hf.ok.all g hg).2.2.1) (R : Int)
    have hmL := most_le l 1000 (by decide) (fun g hg => (hf.ok.all g hg).2.2.2) (R : Int)
    have hmL2 : most l (R : Int) ≤ 16000 := by omega
    rw [← hcw] at htw
    rw [htv] at hcv
    clear hcw htv hmL b1
    generalize chosen (told l (R : Int)) l.length = C at hB hcv hclt hcup hcl htw
    generalize most l (R : Int) = M at hcv hbest hm0 hmL2
    have Hbest := Lib.hid hbest
    have Hup := Lib.hid hcup
    have Hcv := Lib.hid hcv
    have Htw := Lib.hid htw
    have Hclt := Lib.hid hclt
    have hal := asInts_length C
    clear hbest hcup hcv htw hclt
    obtain ⟨wo, rfl⟩ : ∃ wo : World, wo = w1 := ⟨_, rfl⟩
    go_wp2
    go_loopw [11, 12, 13] (fun wt vl i wr => ∃ k n : Nat, i = .int .i64 k ∧ k ≤ C.length ∧ wt = .int .i64 (S (wOf l) (C.take k)) ∧ vl = .int .i64 (S (vOf l) (C.take k)) ∧ wr = wo.drewN n)
      (fun _ _ i _ => C.length - (intOf i).toNat)
    case atStart => exact ⟨0, 0, rfl, Nat.zero_le _, rfl, rfl, rfl⟩
    case round =>
      obtain ⟨k, n, rfl, hk, rfl, rfl, rfl⟩ := hrel
      have hwr := S_range (f := wOf l) (A := C.take k) (c := 300) (fun i _ => by have := wv_range hf.ok i; omega)
      have hvr := S_range (f := vOf l) (A := C.take k) (c := 1000) (fun i _ => by have := wv_range hf.ok i; omega)
      have htl : (C.take k).length = k := by rw [List.length_take]; omega
      rw [htl] at hwr hvr
      have hwr2 : S (wOf l) (C.take k) ≤ 16000 := by omega
      have hvr2 : S (vOf l) (C.take k) ≤ 16000 := by omega
      obtain ⟨hwr0, _⟩ := hwr
      obtain ⟨hvr0, _⟩ := hvr
      clear htl
      rcases Nat.lt_or_ge k C.length with hlt | hge
      · obtain ⟨b1, o1, rfl, hcs⟩ := hB.open (by rw [hal]; omega)
        have c0 := hcs k (by rw [hal]; exact hlt)
        rw [asInts_getD C k hlt] at c0
        have hio := Hclt.out _ (List.getElem_mem hlt)
        obtain ⟨b2, o2, rfl, hbl, hcg⟩ := hx1.open (by omega)
        obtain ⟨d0, d1⟩ := hcg _ hio
        have hr := wv_range hf.ok C[k]
        have e1 := S_take_snoc (wOf l) C k hlt
        have e2 := S_take_snoc (vOf l) C k hlt
        have ew : (l.getD C[k] g0).w = wOf l C[k] := rfl
        have ev : (l.getD C[k] g0).v = vOf l C[k] := rfl
        rw [ew] at d0
        rw [ev] at d1
        have E1 := Lib.hid e1
        have E2 := Lib.hid e2
        have hkl : (k : Int) < C.length := by omega
        generalize hSW : S (wOf l) (C.take k) = SW at hwr0 hwr2 E1
        generalize hSV : S (vOf l) (C.take k) = SV at hvr0 hvr2 E2
        clear ew ev e1 e2 hcg hSW hSV
        rcases Nat.eq_zero_or_pos k with hk0 | hk0
        · subst hk0
          generalize hi : C[0] = i at c0 d0 d1 hr hio E1 E2
          generalize wOf l i = wi at d0 hr E1
          generalize vOf l i = vi at d1 hr E2
          clear hi hcs
          have hil : (i : Int) < l.length := by omega
          rw [Nat.add_zero] at c0
          have hb1 : decide ((i : Int) < 0) = false := by rw [decide_eq_false_iff_not]; omega
          have hb2 : decide ((l.length : Int) ≤ (i : Int)) = false := by simp; omega
          have hb2' : decide (l.length ≤ i) = false := by simp; omega
          go_wp2
          go_quiet (fail)
          go_wp2
          go_roundw
          case rel => exact ⟨0 + 1, n + nq, by go_num, by omega, by rw [E1.out], by rw [E2.out], by first | rfl | rw [World.drewN_drewN]⟩
          case measure => simp only [intOf]; omega
        · have cp := hcs (k - 1) (by rw [hal]; omega)
          rw [asInts_getD C (k - 1) (by omega)] at cp
          have hup := List.pairwise_iff_getElem.1 Hup.out (k - 1) k (by omega) hlt (by omega)
          generalize hip : C[k - 1] = ip at cp hup
          generalize hi : C[k] = i at c0 d0 d1 hr hio E1 E2 hup
          generalize wOf l i = wi at d0 hr E1
          generalize vOf l i = vi at d1 hr E2
          obtain ⟨m, rfl⟩ : ∃ m, k = m + 1 := ⟨k - 1, by omega⟩
          rw [Nat.add_sub_cancel] at cp
          clear hi hip hcs
          have hil : (i : Int) < l.length := by omega
          have hup2 : (ip : Int) < (i : Int) := by omega
          have hb3 : (0 : Int) < (m : Int) + 1 := by omega
          have hb4 : decide ((i : Int) ≤ (ip : Int)) = false := by simp; omega
          have hb5 : decide (i ≤ ip) = false := by simp; omega
          have hb1 : decide ((i : Int) < 0) = false := by rw [decide_eq_false_iff_not]; omega
          have hb2 : decide ((l.length : Int) ≤ (i : Int)) = false := by simp; omega
          have hb2' : decide (l.length ≤ i) = false := by simp; omega
          go_wp2
          go_quiet (fail)
          go_wp2
          go_roundw
          case rel => exact ⟨m + 1 + 1, n + nq, by go_num, by omega, by rw [E1.out], by rw [E2.out], by first | rfl | rw [World.drewN_drewN]⟩
          case measure => simp only [intOf]; omega
      · obtain rfl : C.length = k := by omega
        rw [List.take_length] at hwr0 hvr0 hwr2 hvr2 ⊢
        have hw := Htw.out
        have hv := Hcv.out
        rw [hv]
        have h3 : decide (C.length < C.length) = false := by simp
        have hMM : (M != M) = false := by simp
        generalize S (wOf l) C = SW at hw hwr0 hwr2 ⊢
        clear hv hvr0 hvr2
        by_cases hlen : other.length = l.length
        · have hne : ((other.length : Int) != (l.length : Int)) = false := by rw [bne_eq_false_iff_eq]; omega
          have Hlen := Lib.hid hlen
          clear hlen
          go_wp2
          go_loop [11, 12, 14] (fun wt vl i => ∃ k : Nat, i = .int .i64 k ∧ k ≤ l.length ∧ wt = .int .i64 (S (fun i => (if other.getD i false then 1 else 0) * wOf l i) (List.range k)) ∧ vl = .int .i64 (S (fun i => (if other.getD i false then 1 else 0) * vOf l i) (List.range k)))
            (fun _ _ i => l.length - (intOf i).toNat)
          case atStart => exact ⟨0, rfl, Nat.zero_le _, rfl, rfl⟩
          case round =>
            obtain ⟨k, rfl, hk2, rfl, rfl⟩ := hrel
            have hwr := S_range (f := fun i => (if other.getD i false then 1 else 0) * wOf l i) (A := List.range k) (c := 300) (fun i _ => by have := wv_range hf.ok i; split <;> omega)
            have hvr := S_range (f := fun i => (if other.getD i false then 1 else 0) * vOf l i) (A := List.range k) (c := 1000) (fun i _ => by have := wv_range hf.ok i; split <;> omega)
            rw [List.length_range] at hwr hvr
            have e1 := S_range_succ (fun i => (if other.getD i false then 1 else 0) * wOf l i) k
            have e2 := S_range_succ (fun i => (if other.getD i false then 1 else 0) * vOf l i) k
            rcases Nat.lt_or_ge k l.length with hlt | hge2
            · obtain ⟨b1, o1, rfl, hbl1, hcs⟩ := hy1.open (by rw [Hlen.out]; omega)
              have c0 := hcs k (by rw [Hlen.out]; exact hlt)
              obtain ⟨b2, o2, rfl, hbl, hcg⟩ := hx1.open (by omega)
              obtain ⟨d0, d1⟩ := hcg k hlt
              have hr := wv_range hf.ok k
              have ew : (l.getD k g0).w = wOf l k := rfl
              have ev : (l.getD k g0).v = vOf l k := rfl
              rw [ew] at d0
              rw [ev] at d1
              have hko : (k : Int) < other.length := by rw [Hlen.out]; omega
              generalize hSW : S (fun i => (if other.getD i false then 1 else 0) * wOf l i) (List.range k) = SW2 at hwr e1 ⊢
              generalize hSV : S (fun i => (if other.getD i false then 1 else 0) * vOf l i) (List.range k) = SV2 at hvr e2 ⊢
              generalize wOf l k = wi at d0 hr e1
              generalize vOf l k = vi at d1 hr e2
              generalize other.getD k false = ob at c0 e1 e2
              have E1 := Lib.hid e1
              have E2 := Lib.hid e2
              clear ew ev e1 e2 hcs hcg hSW hSV
              cases ob
              · go_wp2
                go_round
                case rel => exact ⟨k + 1, by go_num, by omega, by rw [E1.out]; simp, by rw [E2.out]; simp⟩
                case measure => simp only [intOf]; omega
              · go_wp2
                go_round
                case rel => exact ⟨k + 1, by go_num, by omega, by rw [E1.out]; simp, by rw [E2.out]; simp⟩
                case measure => simp only [intOf]; omega
            · obtain rfl : l.length = k := by omega
              have hb := Hbest.out
              rw [weigh_eq, worth_eq] at hb
              have h4 : decide (l.length < l.length) = false := by simp
              clear e1 e2
              generalize S (fun i => (if other.getD i false then 1 else 0) * wOf l i) (List.range l.length) = SW2 at hwr hb ⊢
              generalize S (fun i => (if other.getD i false then 1 else 0) * vOf l i) (List.range l.length) = SV2 at hvr hb ⊢
              rcases Int.lt_or_le (R : Int) SW2 with h5 | h5
              · clear hb
                go_wp2
                go_ret
                exact ⟨rfl, drewN_below b01 _⟩
              · have hb2 := hb h5
                clear hb
                go_wp2
                go_ret
                exact ⟨rfl, drewN_below b01 _⟩
        · have hne : ((other.length : Int) != (l.length : Int)) = true := by rw [bne_iff_ne]; omega
          clear hlen
          go_wp2
          go_ret
          exact ⟨rfl, drewN_below b01 _⟩
  · have Hc := Lib.hid hc
    clear hc
    go_enter Try.func4, Try.ntmps4
    go_wp2_with fail
    refine (sackFact_any _).mono ?_
    rintro e w0 ⟨rfl, b0⟩
    go_wp2_with fail
    refine (BestG_no l room a cap _ (hx.below b0) hl Hc.out).mono ?_
    rintro e w1 ⟨rfl, b1⟩
    have b01 := b0.trans (b1.mono b0.size)
    go_wp2
    go_ret
    exact ⟨rfl, b01⟩
end Go.Proofs.Yteoijalamhbkiaa
