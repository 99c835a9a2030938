/- WALKS: True, the closed fact, the laws PageStack and PageRatio. -/
import Derived.Test.YtdamnadamijacaaPageWays
namespace Go.Proofs.Ytdamnadamijacaa
open Go Go.RowKit PagePlain

theorem true_any (b : List Bool) (n g cap : Nat) (w : World) (hb : BRow w g n b) (hn : n ≤ 1000000) :
    Calls Try.prog 10 #[.slice (some ⟨g, 0, none⟩) n cap] w fun e w' => e = .returned (.int .i64 (ones b n : Nat)) ∧ w' = w := by
  have Hb := Lib.hid hb
  clear hb
  go_enter Try.func10, Try.ntmps10
  go_wp2
  go_loop [3, 4] (fun c i => ∃ k : Nat, i = .int .i64 k ∧ k ≤ n ∧ c = .int .i64 (ones b k : Nat)) (fun _ i => n - (intOf i).toNat)
  case atStart => exact ⟨0, rfl, Nat.zero_le _, rfl⟩
  case round =>
    obtain ⟨k, rfl, hk, rfl⟩ := hrel
    rcases Nat.lt_or_ge k n with hlt | hge
    · have c1 := Hb.out.cell hlt
      have e : ones b (k + 1) = ones b k + if b.getD k false = true then 1 else 0 := rfl
      have hle := ones_le b k
      generalize ones b k = m at *
      generalize b.getD k false = u at *
      have E := Lib.hid e
      clear e
      rcases u with _ | _
      · go_wp2
        go_round
        case rel => exact ⟨k + 1, by go_num, by omega, by rw [E.out]; rfl⟩
        case measure => simp only [intOf]; omega
      · go_wp2
        go_round
        case rel => exact ⟨k + 1, by go_num, by omega, by rw [E.out]; go_num⟩
        case measure => simp only [intOf]; omega
    · obtain rfl : n = k := by omega
      have h3 : decide (n < n) = false := by simp
      go_wp2
      go_ret
      exact ⟨rfl, rfl⟩
theorem true_quiet (b : List Bool) (n g cap : Nat) (w : World) (hb : BRow w g n b) (hn : n ≤ 1000000) (q : Nat) :
    Calls Try.prog 10 #[.slice (some ⟨g, 0, none⟩) n cap] (w.drewN q) fun e w' => e = .returned (.int .i64 (ones b n : Nat)) ∧ w' = w.drewN q := true_any b n g cap _ hb hn

def L12 : List Int := [1, 2, 3, 4, 1, 2, 5, 1, 2, 3, 4, 5]
theorem l12_fine (f : Int) (h1 : 1 ≤ f) (h2 : f ≤ 8) : FineP f L12 := ⟨h1, h2, by decide, by decide⟩
theorem l12_three : ones (missL L12 (hnd 3 L12 KFifo)) 12 = 9 := (ones_bits L12 _ 12 (Nat.le_refl _)).trans anomaly.1
theorem l12_four : ones (missL L12 (hnd 4 L12 KFifo)) 12 = 10 := (ones_bits L12 _ 12 (Nat.le_refl _)).trans anomaly.2
set_option maxRecDepth 100000 in
set_option maxHeartbeats 1000000 in
theorem pageFact_any (w : World) : Calls Try.prog 7 #[] w fun e w' => e = .returned (.bool true) ∧ Below w.heap.size w w' := by
  go_enter Try.func7, Try.ntmps7
  go_wp2_with fail
  obtain ⟨w0, hw0⟩ : ∃ w0, w0 = w.alloc (.cells #[.int .i64 1, .int .i64 2, .int .i64 3, .int .i64 4, .int .i64 1, .int .i64 2, .int .i64 5, .int .i64 1, .int .i64 2, .int .i64 3, .int .i64 4, .int .i64 5] 3) := ⟨_, rfl⟩
  have hr : Row w0 w.heap.size 3 L12 := by rw [hw0]; exact heap_alloc_new w _
  have b0 : Below w.heap.size w w0 := by rw [hw0]; exact (Below.refl _ _).alloc (Nat.le_refl _) _
  rw [← hw0]
  clear hw0
  have Hr := Lib.hid hr
  clear hr
  refine (Fifo_any 3 L12 (some ⟨w.heap.size, 0, none⟩) 12 w0 Hr.out.ints (by decide)).mono ?_
  rintro e w1 ⟨⟨_, g1, rfl, hb1, hg1⟩ | ⟨hno, _⟩, b1⟩
  rotate_left
  · exact absurd (l12_fine 3 (by decide) (by decide)) hno
  have Hb1 := Lib.hid hb1
  have Hr1 := Lib.hid (Hr.out.ints.below b1)
  have b01 := b0.trans (b1.mono b0.size)
  clear hb1
  have e2 : L12.length = 12 := rfl
  rw [e2]
  clear e2
  go_wp2_with fail
  refine (Fifo_any 4 L12 (some ⟨w.heap.size, 0, none⟩) 12 w1 Hr1.out (by decide)).mono ?_
  rintro e w2 ⟨⟨_, g2, rfl, hb2, hg2⟩ | ⟨hno, _⟩, b2⟩
  rotate_left
  · exact absurd (l12_fine 4 (by decide) (by decide)) hno
  have e2 : L12.length = 12 := rfl
  rw [e2]
  clear e2
  have b02 := b01.trans (b2.mono b01.size)
  have hb1' : BRow w2 g1 12 (missL L12 (hnd 3 L12 KFifo)) := Hb1.out.of_block (b2.block g1 Hb1.out.lt)
  have hT1 := true_any _ 12 g1 12 w2 hb1' (by decide)
  have hT2 := true_any (missL L12 (hnd 4 L12 KFifo)) 12 g2 12 w2 hb2 (by decide)
  rw [l12_three] at hT1
  rw [l12_four] at hT2
  have HT1 := Lib.hid hT1
  have HT2 := Lib.hid hT2
  clear hT1 hT2 hb1' hb2 b1 b2
  go_wp2_with fail
  refine HT1.out.mono ?_
  rintro e w3 ⟨rfl, rfl⟩
  go_wp2_with fail
  refine HT2.out.mono ?_
  rintro e w3 ⟨rfl, rfl⟩
  go_wp2
  go_ret
  exact ⟨rfl, b02⟩

theorem pageRes_any {K : Kind} {frames : Int} {asks : List Int} {w : World} {e : Ending} {w' : World} (h : PageRes K frames asks w e w') : ∃ x y, e = .returned (.tuple #[x, y]) ∧ Below w.heap.size w w' := by
  obtain ⟨⟨_, g, rfl, _, _⟩ | ⟨_, rfl, _⟩, hb⟩ := h
  · exact ⟨_, _, rfl, hb⟩
  · exact ⟨_, _, rfl, hb⟩
theorem FineP.more {frames : Int} {asks : List Int} (h : FineP frames asks) (h7 : frames ≤ 7) : FineP (frames + 1) asks := ⟨by have := h.r1; omega, by omega, h.short, h.all⟩

set_option maxRecDepth 100000 in
set_option maxHeartbeats 2000000 in
theorem PageStack_walk (frames : Int) (asks : List Int) (a : Option Addr) (cap : Nat) (w : World) (hx : Ints w a asks) (hl : asks.length ≤ 9223372036854775807) (hcap : asks.length ≤ cap) (hcm : cap ≤ 9223372036854775807) (hw1 : -9223372036854775808 ≤ frames) (hw2 : frames ≤ 9223372036854775807) :
    Calls Try.prog 4 #[.int .i64 frames, .slice a asks.length cap] w fun e w' => e = .returned (.bool true) ∧ Below w.heap.size w w' := by
  go_enter Try.func4, Try.ntmps4
  go_wp2_with fail
  refine (pageFact_any _).mono ?_
  rintro e w0 ⟨rfl, b0⟩
  rcases Int.lt_or_le 7 frames with h7 | h7
  · go_wp2
    go_ret
    exact ⟨rfl, b0⟩
  by_cases hf : FineP frames asks
  · have hf1 := hf.more h7
    have h60 := hf.short
    have r1 := hf.r1
    have Hf := Lib.hid hf
    have Hf1 := Lib.hid hf1
    clear hf hf1
    go_wp2_with fail
    refine (Lru_any frames asks a cap _ (hx.below b0) hl).mono ?_
    rintro e w1 ⟨⟨_, g1, rfl, hb1, hg1⟩ | ⟨hno, _⟩, b1⟩
    rotate_left
    · exact absurd Hf.out hno
    have b01 := b0.trans (b1.mono b0.size)
    have Hb1 := Lib.hid hb1
    clear hb1
    go_wp2_with fail
    refine (Lru_any (frames + 1) asks a cap _ (hx.below b01) hl).mono ?_
    rintro e w2 ⟨⟨_, g2, rfl, hb2, hg2⟩ | ⟨hno, _⟩, b2⟩
    rotate_left
    · exact absurd Hf1.out hno
    have b02 := b01.trans (b2.mono b01.size)
    have Hb2 := Lib.hid hb2
    clear hb2
    go_wp2_with fail
    refine (Far_any frames asks a cap _ (hx.below b02) hl hcap hcm).mono ?_
    rintro e w3 ⟨⟨_, g3, rfl, hb3, hg3⟩ | ⟨hno, _⟩, b3⟩
    rotate_left
    · exact absurd Hf.out hno
    have b03 := b02.trans (b3.mono b02.size)
    have Hb3 := Lib.hid hb3
    clear hb3
    go_wp2_with fail
    refine (Far_any (frames + 1) asks a cap _ (hx.below b03) hl hcap hcm).mono ?_
    rintro e w4 ⟨⟨_, g4, rfl, hb4, hg4⟩ | ⟨hno, _⟩, b4⟩
    rotate_left
    · exact absurd Hf1.out hno
    have b04 := b03.trans (b4.mono b03.size)
    have b34 : Below w3.heap.size w3 w4 := b4
    have b24 : Below w2.heap.size w2 w4 := b3.trans (b4.mono b3.size)
    have b14 : Below w1.heap.size w1 w4 := b2.trans (b24.mono b2.size)
    have hA : BRow w4 g1 asks.length (missL asks (hnd frames.toNat asks KLru)) := Hb1.out.of_block (b14.block g1 Hb1.out.lt)
    have hB : BRow w4 g2 asks.length (missL asks (hnd (frames + 1).toNat asks KLru)) := Hb2.out.of_block (b24.block g2 Hb2.out.lt)
    have hC : BRow w4 g3 asks.length (missL asks (hnd frames.toNat asks (KFar asks))) := Hb3.out.of_block (b34.block g3 Hb3.out.lt)
    have hT3 := true_any _ asks.length g3 asks.length w4 hC (by omega)
    have hT4 := true_any _ asks.length g4 asks.length w4 hb4 (by omega)
    have hst := fun t ht x h => stack (f := frames.toNat) (g := (frames + 1).toNat) (l := asks) (by omega) (by omega) (lru_run (by omega)) (lru_run (by omega)) (t := t) ht (x := x) h
    have hbel := (belady (far_run (l := asks) (f := (frames + 1).toNat) (by omega)) (far_run (l := asks) (f := frames.toNat) (by omega)).dem (by omega) asks.length (Nat.le_refl _)).1
    rw [← ones_bits asks _ _ (Nat.le_refl _), ← ones_bits asks _ _ (Nat.le_refl _)] at hbel
    have o1 := ones_le (missL asks (hnd (frames + 1).toNat asks (KFar asks))) asks.length
    have o2 := ones_le (missL asks (hnd frames.toNat asks (KFar asks))) asks.length
    generalize ones (missL asks (hnd (frames + 1).toNat asks (KFar asks))) asks.length = n4 at hT4 hbel o1
    generalize ones (missL asks (hnd frames.toNat asks (KFar asks))) asks.length = n3 at hT3 hbel o2
    have HA := Lib.hid hA
    have HB := Lib.hid hB
    have HT3 := Lib.hid hT3
    have HT4 := Lib.hid hT4
    have HSt := Lib.hid hst
    have hne : ((asks.length : Int) != (asks.length : Int)) = false := by simp
    clear hA hB hC hT3 hT4 hst hb4 b34 b24 b14 b0 b1 b2 b3 b4 b01 b02 b03 hx
    go_wp2
    go_loop [14] (fun i => ∃ k : Nat, i = .int .i64 k ∧ k ≤ asks.length) (fun i => asks.length - (intOf i).toNat)
    case atStart => exact ⟨0, rfl, Nat.zero_le _⟩
    case round =>
      obtain ⟨k, rfl, hk⟩ := hrel
      rcases Nat.lt_or_ge k asks.length with hlt | hge
      · have c1 := HA.out.cell hlt
        have c2 := HB.out.cell hlt
        have hs := HSt.out k (by omega) (pg asks k)
        rw [bits_at _ _ hlt] at c1 c2
        by_cases hm : pg asks k ∈ hnd frames.toNat asks KLru k
        · have hm2 := hs hm
          rw [decide_eq_false (by simpa using hm)] at c1
          rw [decide_eq_false (by simpa using hm2)] at c2
          clear hm hm2 hs
          go_wp2
          go_round
          case rel => exact ⟨k + 1, by go_num, by omega⟩
          case measure => simp only [intOf]; omega
        · rw [decide_eq_true hm] at c1
          clear hm hs
          generalize decide (pg asks k ∉ hnd (frames + 1).toNat asks KLru k) = u at c2
          rcases u with _ | _
          · go_wp2
            go_round
            case rel => exact ⟨k + 1, by go_num, by omega⟩
            case measure => simp only [intOf]; omega
          · go_wp2
            go_round
            case rel => exact ⟨k + 1, by go_num, by omega⟩
            case measure => simp only [intOf]; omega
      · obtain rfl : asks.length = k := by omega
        have h3 : decide (asks.length < asks.length) = false := by simp
        have hle : (n4 : Int) ≤ n3 := by omega
        go_wp2_with fail
        refine HT4.out.mono ?_
        rintro e w5 ⟨rfl, rfl⟩
        go_wp2_with fail
        refine HT3.out.mono ?_
        rintro e w5 ⟨rfl, rfl⟩
        go_wp2
        go_ret
        exact ⟨rfl, b04⟩
  · have Hf := Lib.hid hf
    clear hf
    go_wp2_with fail
    refine (Lru_any frames asks a cap _ (hx.below b0) hl).mono ?_
    rintro e w1 ⟨⟨hno, _⟩ | ⟨_, rfl, hk1⟩, b1⟩
    · exact absurd hno Hf.out
    have b01 := b0.trans (b1.mono b0.size)
    generalize chkP frames asks = c1 at *
    go_wp2_with fail
    refine (Lru_any (frames + 1) asks a cap _ (hx.below b01) hl).mono ?_
    intro e w2 hr2
    obtain ⟨x2, y2, rfl, b2⟩ := pageRes_any hr2
    have b02 := b01.trans (b2.mono b01.size)
    clear hr2
    go_wp2_with fail
    refine (Far_any frames asks a cap _ (hx.below b02) hl hcap hcm).mono ?_
    rintro e w3 ⟨⟨hno, _⟩ | ⟨_, rfl, hk3⟩, b3⟩
    · exact absurd hno Hf.out
    have b03 := b02.trans (b3.mono b02.size)
    generalize chkP frames asks = c3 at *
    go_wp2_with fail
    refine (Far_any (frames + 1) asks a cap _ (hx.below b03) hl hcap hcm).mono ?_
    intro e w4 hr4
    obtain ⟨x4, y4, rfl, b4⟩ := pageRes_any hr4
    have b04 := b03.trans (b4.mono b03.size)
    clear hr4
    go_wp2
    go_ret
    exact ⟨rfl, b04⟩
end Go.Proofs.Ytdamnadamijacaa
