/- WALKS: the fact; the law SackCut. -/
import Derived.Test.YteoijalamhbkiaaSackCut
import Derived.Test.YteoijalamhbkiaaGoodsOpen
namespace Go.Proofs.Yteoijalamhbkiaa
open Go Go.RowKit SackPlain
open SortPlain (asInts asInts_length)

def lf : List Gd := [⟨4, 4⟩, ⟨2, 6⟩]
theorem lf_fine : FineG lf 3 := ⟨⟨by decide, by decide⟩, by decide, by decide⟩
theorem cell_of_cells {w : World} {b : Nat} {cur : Array Value} {t : TypeId} (h : w.heap[b]? = some (.cells cur t (0, 0))) (j : Nat) : w.cell? ⟨b, j, none⟩ = cur[j]? := by simp [World.cell?, h]
theorem lf_goods (w : World) (t : TypeId) (g : Nat) (hg : g = w.heap.size) : Goods (w.alloc (.cells #[.int .i64 4, .int .i64 4, .int .i64 2, .int .i64 6] t)) (some ⟨g, 0, none⟩) lf := by
  subst hg
  have hb := heap_alloc_new w (.cells #[.int .i64 4, .int .i64 4, .int .i64 2, .int .i64 6] t)
  refine Or.inr ⟨w.heap.size, 0, rfl, lt_of_block hb, fun i hi => ?_⟩
  have hi2 : i = 0 ∨ i = 1 := by simp [lf] at hi; omega
  rcases hi2 with rfl | rfl
  · exact ⟨by rw [cell_of_cells hb]; rfl, by rw [cell_of_cells hb]; rfl⟩
  · exact ⟨by rw [cell_of_cells hb]; rfl, by rw [cell_of_cells hb]; rfl⟩
theorem lf_ord {ord : List Nat} (h : GSort.Falls (dearR lf) 2 ord) : ord = [1, 0] := by
  have hn : ¬ dearR lf 0 1 := by unfold dearR dearL; decide
  have hp := h.perm
  have hl := h.length
  match ord, hl with
  | [a, b], _ =>
    have hs := h.sorted
    rw [List.pairwise_cons] at hs
    have hab := hs.1 b (by simp)
    have ha := h.lt a (by simp)
    have hb := h.lt b (by simp)
    have hnd := h.nodup
    have hne : a ≠ b := by simpa using hnd
    have : (a = 0 ∧ b = 1) ∨ (a = 1 ∧ b = 0) := by omega
    rcases this with ⟨rfl, rfl⟩ | ⟨rfl, rfl⟩
    · exact absurd hab hn
    · rfl
theorem lf_cut {whole part of_ : Int} (h : CutRes (wOf lf) (vOf lf) [1, 0] 3 whole part of_) : whole = 6 ∧ part = 4 ∧ of_ = 4 := by
  obtain ⟨A, B, hAB, hw, hwh, hB⟩ := h
  have w0 : wOf lf 0 = 4 := rfl
  have w1 : wOf lf 1 = 2 := rfl
  have v0 : vOf lf 0 = 4 := rfl
  have v1 : vOf lf 1 = 6 := rfl
  match A, hAB with
  | [], hAB =>
    have hB' : B = [1, 0] := by simpa using hAB.symm
    subst hB'
    rcases hB with ⟨hB, _⟩ | ⟨b, B', hB, h1, _⟩
    · cases hB
    · simp only [List.cons.injEq] at hB
      obtain ⟨rfl, _⟩ := hB
      rw [S_nil, w1] at h1; omega
  | [a], hAB =>
    simp only [List.cons_append, List.nil_append, List.cons.injEq] at hAB
    obtain ⟨rfl, rfl⟩ := hAB
    rcases hB with ⟨hB, _⟩ | ⟨b, B', hB, h1, h2, h3⟩
    · cases hB
    · simp only [List.cons.injEq] at hB
      obtain ⟨rfl, _⟩ := hB
      rw [S_cons, S_nil] at *
      rw [w1, v0] at h2
      rw [v1] at hwh
      rw [w0] at h3
      omega
  | a :: b :: A, hAB =>
    simp only [List.cons_append, List.cons.injEq] at hAB
    obtain ⟨rfl, rfl, hAB⟩ := hAB
    have : A = [] := by
      cases A with
      | nil => rfl
      | cons x A => simp at hAB
    subst this
    rw [S_cons, S_cons, S_nil, w1, w0] at hw; omega
theorem sackFact_any (w : World) : Calls Try.prog 6 #[] w fun e w' => e = .returned (.bool true) ∧ Below w.heap.size w w' := by
  go_enter Try.func6, Try.ntmps6
  go_wp2_with fail
  refine (CutG_yes lf 3 (some ⟨w.heap.size, 0, none⟩) 2 _ (lf_goods _ _ _ (by simp)) lf_fine).mono ?_
  rintro e w1 ⟨ord, whole, part, of_, rfl, hF, hC, _, b1⟩
  rw [lf_ord hF] at hC
  obtain ⟨rfl, rfl, rfl⟩ := lf_cut hC
  have b2 : Below w.heap.size w w1 := ((Below.refl _ _).alloc (Nat.le_refl _) _).trans (b1.mono (by simp))
  clear hF hC b1
  go_wp2
  (try simp only [Exit.inBlock, Exit.then])
  go_ret
  exact ⟨rfl, b2⟩

theorem mul_range2 {x y X Y : Int} (h0 : 0 ≤ x) (h1 : x ≤ X) (h2 : 0 ≤ y) (h3 : y ≤ Y) : 0 ≤ x * y ∧ x * y ≤ X * Y :=
  ⟨Int.mul_nonneg h0 h2, Int.mul_le_mul h1 h3 h2 (by omega)⟩
def pOf (parts : List Int) (i : Nat) : Int := parts.getD i 0
theorem S_range_succ (f : Nat → Int) (k : Nat) : S f (List.range (k + 1)) = S f (List.range k) + f k := by
  rw [List.range_succ, S_append, S_cons, S_nil]; omega

set_option maxRecDepth 100000 in
set_option maxHeartbeats 2000000 in
theorem SackCut_walk (l : List Gd) (parts : List Int) (room : Int) (a b : Option Addr) (cap cap' : Nat) (w : World) (hx : Goods w a l) (hl : l.length ≤ 9223372036854775807) (hy : Ints w b parts) (hl' : parts.length ≤ 9223372036854775807) :
    Calls Try.prog 3 #[.slice a l.length cap, .int .i64 room, .slice b parts.length cap'] w fun e w' => e = .returned (.bool true) ∧ Below w.heap.size w w' := by
  by_cases hc : chkG l room = 0
  · have hf := chkG_fine hc
    clear hc
    have hs := hf.ok.short
    have r0 := hf.r0
    have r1 := hf.r1
    go_enter Try.func3, Try.ntmps3
    go_wp2_with fail
    refine (sackFact_any _).mono ?_
    rintro e w0 ⟨rfl, b0⟩
    go_wp2_with fail
    refine (CutG_yes l room a cap _ (hx.below b0) hf).mono ?_
    rintro e w1 ⟨ord, whole, part, of_, rfl, hF, hC, ⟨q1, q2, q3, q4, q5, q6⟩, b1⟩
    have b01 := b0.trans (b1.mono b0.size)
    have hx1 := hx.below b01
    have hy1 := hy.below b01
    have hlaw : ∀ p : Nat → Int, (∀ i, i < l.length → 0 ≤ p i ∧ p i ≤ 100) → S (fun i => p i * wOf l i) (List.range l.length) ≤ 100 * room → S (fun i => p i * vOf l i) (List.range l.length) * of_ ≤ 100 * (whole * of_ + part) := fun p hp hr => by
      rw [← S_perm _ hF.perm] at hr ⊢
      exact cut_law hC (hF.sorted.imp fun h => dearR_dear h) (fun i hi => hp i (hF.lt i hi)) (fun i hi => (wv_range hf.ok i).2.2.1) hr
    have Hlaw := Lib.hid hlaw
    clear hF hC hlaw b1
    by_cases hlen : parts.length = l.length
    · have hne : ((parts.length : Int) != (l.length : Int)) = false := by rw [bne_eq_false_iff_eq]; omega
      have Hlen := Lib.hid hlen
      clear hlen
      go_wp2
      obtain ⟨wo, rfl⟩ : ∃ wo : World, wo = w1 := ⟨_, rfl⟩
      go_loopw [12, 13, 14] (fun wt vl i wr => ∃ k n : Nat, i = .int .i64 k ∧ k ≤ l.length ∧ wt = .int .i64 (S (fun i => pOf parts i * wOf l i) (List.range k)) ∧ vl = .int .i64 (S (fun i => pOf parts i * vOf l i) (List.range k)) ∧ (∀ j, j < k → 0 ≤ pOf parts j ∧ pOf parts j ≤ 100) ∧ wr = wo.drewN n)
        (fun _ _ i _ => l.length - (intOf i).toNat)
      case atStart => exact ⟨0, 0, rfl, Nat.zero_le _, rfl, rfl, fun j hj => by omega, rfl⟩
      case round =>
        obtain ⟨k, n, rfl, hk, rfl, rfl, hall, rfl⟩ := hrel
        have hwr := S_range (f := fun i => pOf parts i * wOf l i) (A := List.range k) (c := 30000) (fun i hi => by
          have h1 := hall i (List.mem_range.1 hi)
          have h2 := wv_range hf.ok i
          exact mul_range2 h1.1 h1.2 (show 0 ≤ wOf l i by omega) h2.2.1)
        have hvr := S_range (f := fun i => pOf parts i * vOf l i) (A := List.range k) (c := 100000) (fun i hi => by
          have h1 := hall i (List.mem_range.1 hi)
          have h2 := wv_range hf.ok i
          exact mul_range2 h1.1 h1.2 h2.2.2.1 h2.2.2.2)
        rw [List.length_range] at hwr hvr
        have e1 := S_range_succ (fun i => pOf parts i * wOf l i) k
        have e2 := S_range_succ (fun i => pOf parts i * vOf l i) k
        have Hall := Lib.hid hall
        clear hall
        rcases Nat.lt_or_ge k l.length with hlt | hge
        · generalize hSW : S (fun i => pOf parts i * wOf l i) (List.range k) = SW at hwr e1
          generalize hSV : S (fun i => pOf parts i * vOf l i) (List.range k) = SV at hvr e2
          clear hSW hSV
          obtain ⟨b1, o1, rfl, hbl, hc⟩ := hx1.open (by omega)
          obtain ⟨c0, c1⟩ := hc k hlt
          obtain ⟨b2, o2, rfl, hd⟩ := hy1.open (by rw [Hlen.out]; omega)
          have d0 := hd k (by rw [Hlen.out]; exact hlt)
          have hkp : (k : Int) < parts.length := by rw [Hlen.out]; omega
          have hr := wv_range hf.ok k
          have ep : parts.getD k 0 = pOf parts k := rfl
          have ew : (l.getD k g0).w = wOf l k := rfl
          have ev : (l.getD k g0).v = vOf l k := rfl
          rw [ep] at d0
          rw [ew] at c0
          rw [ev] at c1
          clear hc hd ep ew ev
          have e1' : S (fun i => pOf parts i * wOf l i) (List.range (k + 1)) = SW + pOf parts k * wOf l k := e1
          have e2' : S (fun i => pOf parts i * vOf l i) (List.range (k + 1)) = SV + pOf parts k * vOf l k := e2
          clear e1 e2
          generalize hp : pOf parts k = pk at d0 e1' e2'
          generalize wOf l k = wk at c0 hr e1'
          generalize vOf l k = vk at c1 hr e2'
          have E1 := Lib.hid e1'
          have E2 := Lib.hid e2'
          have Hp := Lib.hid hp
          clear e1' e2' hp
          rcases Int.lt_or_le pk 0 with h1 | h1
          · go_wp2
            go_ret
            exact ⟨rfl, drewN_below b01 _⟩
          · rcases Int.lt_or_le 100 pk with h2 | h2
            · go_wp2
              go_ret
              exact ⟨rfl, drewN_below b01 _⟩
            · have m1 := mul_range2 h1 h2 (show 0 ≤ wk by omega) hr.2.1
              have m2 := mul_range2 h1 h2 hr.2.2.1 hr.2.2.2
              obtain ⟨m1a, m1b⟩ := m1
              obtain ⟨m2a, m2b⟩ := m2
              go_wp2
              go_quiet (fail)
              go_wp2
              go_quiet (fail)
              go_wp2
              go_roundw
              case rel =>
                refine ⟨k + 1, _, by go_num, by omega, by rw [E1.out], by rw [E2.out], fun j hj => ?_, by first | rfl | (rw [World.drewN_drewN, World.drewN_drewN]) | rw [World.drewN_drewN]⟩
                rcases Nat.lt_or_ge j k with h | h
                · exact Hall.out j h
                · obtain rfl : j = k := by omega
                  rw [Hp.out]; exact ⟨h1, h2⟩
              case measure => simp only [intOf]; omega
        · obtain rfl : l.length = k := by omega
          have hL := Hlaw.out (pOf parts) Hall.out
          have h3 : decide (l.length < l.length) = false := by simp
          clear e1 e2
          generalize S (fun i => pOf parts i * wOf l i) (List.range l.length) = SW at hwr hL ⊢
          generalize S (fun i => pOf parts i * vOf l i) (List.range l.length) = SV at hvr hL ⊢
          have hvr2 : SV ≤ 1600000 := by omega
          obtain ⟨hv0, _⟩ := hvr
          have m1 := mul_range2 hv0 hvr2 (show 0 ≤ of_ by omega) q6
          have m2 := mul_range2 q1 q2 (show 0 ≤ of_ by omega) q6
          obtain ⟨m1a, m1b⟩ := m1
          obtain ⟨m2a, m2b⟩ := m2
          rcases Int.lt_or_le (100 * room) SW with h4 | h4
          · clear hL
            go_wp2
            go_ret
            exact ⟨rfl, drewN_below b01 _⟩
          · have hL2 := hL h4
            clear hL
            go_wp2
            go_ret
            exact ⟨rfl, drewN_below b01 _⟩
    · have hne : ((parts.length : Int) != (l.length : Int)) = true := by rw [bne_iff_ne]; omega
      clear hlen
      go_wp2
      go_ret
      exact ⟨rfl, b01⟩
  · have Hc := Lib.hid hc
    clear hc
    go_enter Try.func3, Try.ntmps3
    go_wp2_with fail
    refine (sackFact_any _).mono ?_
    rintro e w0 ⟨rfl, b0⟩
    go_wp2_with fail
    refine (CutG_no l room a cap _ (hx.below b0) hl Hc.out).mono ?_
    rintro e w1 ⟨rfl, b1⟩
    have b01 := b0.trans (b1.mono b0.size)
    go_wp2
    go_ret
    exact ⟨rfl, b01⟩
end Go.Proofs.Yteoijalamhbkiaa
