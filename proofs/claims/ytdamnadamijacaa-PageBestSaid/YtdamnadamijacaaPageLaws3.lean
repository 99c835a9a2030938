/- WALKS: the laws PageBest and PageFirst. -/
import Derived.Test.YtdamnadamijacaaPageWays2
namespace Go.Proofs.Ytdamnadamijacaa
open Go Go.RowKit PagePlain

theorem far_best {f : Nat} {l : List Int} {V K} (hf : 0 < f) (R : Run f l V (hnd f l K)) : ones (missL l (hnd f l (KFar l))) l.length ≤ ones (missL l (hnd f l K)) l.length := by
  have h := (belady (far_run (l := l) hf) R.dem (Nat.le_refl _) l.length (Nat.le_refl _)).1
  rw [← ones_bits l _ _ (Nat.le_refl _), ← ones_bits l _ _ (Nat.le_refl _)] at h
  exact h
set_option maxRecDepth 100000 in
set_option maxHeartbeats 2000000 in
theorem PageBest_walk (frames : Int) (asks picks : List Int) (a ap : Option Addr) (cap capp : Nat) (w : World) (hx : Ints w a asks) (hl : asks.length ≤ 9223372036854775807) (hcap : asks.length ≤ cap) (hcm : cap ≤ 9223372036854775807)
    (hy : Ints w ap picks) (hlp : picks.length ≤ 9223372036854775807) (hwf : ∀ n ∈ picks, -9223372036854775808 ≤ n ∧ n ≤ 9223372036854775807) :
    Calls Try.prog 6 #[.int .i64 frames, .slice a asks.length cap, .slice ap picks.length capp] w fun e w' => e = .returned (.bool true) ∧ Below w.heap.size w w' := by
  go_enter Try.func6, Try.ntmps6
  go_wp2_with fail
  refine (pageFact_any _).mono ?_
  rintro e w0 ⟨rfl, b0⟩
  by_cases hf : FineP frames asks
  · have h60 := hf.short
    have r1 := hf.r1
    have Hf := Lib.hid hf
    clear hf
    go_wp2_with fail
    refine (Far_any frames asks a cap _ (hx.below b0) hl hcap hcm).mono ?_
    rintro e w1 ⟨⟨_, g1, rfl, hb1, hg1⟩ | ⟨hno, _⟩, b1⟩
    rotate_left
    · exact absurd Hf.out hno
    have b01 := b0.trans (b1.mono b0.size)
    have Hb1 := Lib.hid hb1
    clear hb1
    go_wp2_with fail
    refine (Told_any frames asks picks a ap cap capp _ (hx.below b01) hl (hy.below b01) hlp hwf).mono ?_
    rintro e w2 ⟨⟨_, g2, rfl, hb2, hg2⟩ | ⟨hno, _⟩, b2⟩
    rotate_left
    · exact absurd Hf.out hno
    have b02 := b01.trans (b2.mono b01.size)
    have Hb2 := Lib.hid hb2
    clear hb2
    go_wp2_with fail
    refine (Lru_any frames asks a cap _ (hx.below b02) hl).mono ?_
    rintro e w3 ⟨⟨_, g3, rfl, hb3, hg3⟩ | ⟨hno, _⟩, b3⟩
    rotate_left
    · exact absurd Hf.out hno
    have b03 := b02.trans (b3.mono b02.size)
    have Hb3 := Lib.hid hb3
    clear hb3
    go_wp2_with fail
    refine (Fifo_any frames asks a cap _ (hx.below b03) hl).mono ?_
    rintro e w4 ⟨⟨_, g4, rfl, hb4, hg4⟩ | ⟨hno, _⟩, b4⟩
    rotate_left
    · exact absurd Hf.out hno
    have b04 := b03.trans (b4.mono b03.size)
    have b34 : Below w3.heap.size w3 w4 := b4
    have b24 : Below w2.heap.size w2 w4 := b3.trans (b4.mono b3.size)
    have b14 : Below w1.heap.size w1 w4 := b2.trans (b24.mono b2.size)
    obtain ⟨f, rfl⟩ := Int.eq_ofNat_of_zero_le (show 0 ≤ frames by omega)
    have hA : BRow w4 g1 asks.length (missL asks (hnd (f : Int).toNat asks (KFar asks))) := Hb1.out.of_block (b14.block g1 Hb1.out.lt)
    have hB : BRow w4 g2 asks.length (missL asks (hnd (f : Int).toNat asks (KTold picks))) := Hb2.out.of_block (b24.block g2 Hb2.out.lt)
    have hC : BRow w4 g3 asks.length (missL asks (hnd (f : Int).toNat asks KLru)) := Hb3.out.of_block (b34.block g3 Hb3.out.lt)
    rw [Int.toNat_natCast] at hA hB hC hb4
    have hT1 := true_any _ asks.length g1 asks.length w4 hA (by omega)
    have hT2 := true_any _ asks.length g2 asks.length w4 hB (by omega)
    have hT3 := true_any _ asks.length g3 asks.length w4 hC (by omega)
    have hT4 := true_any _ asks.length g4 asks.length w4 hb4 (by omega)
    have m2 := far_best (l := asks) (show 0 < f by omega) (told_run (picks := picks) (by omega))
    have m3 := far_best (l := asks) (show 0 < f by omega) (lru_run (by omega))
    have m4 := far_best (l := asks) (show 0 < f by omega) (fifo_run (by omega))
    generalize ones (missL asks (hnd f asks (KFar asks))) asks.length = n1 at *
    generalize ones (missL asks (hnd f asks (KTold picks))) asks.length = n2 at *
    generalize ones (missL asks (hnd f asks KLru)) asks.length = n3 at *
    generalize ones (missL asks (hnd f asks KFifo)) asks.length = n4 at *
    have HT1 := Lib.hid hT1
    have HT2 := Lib.hid hT2
    have HT3 := Lib.hid hT3
    have HT4 := Lib.hid hT4
    have p2 : (n1 : Int) ≤ n2 := by omega
    have p3 : (n1 : Int) ≤ n3 := by omega
    have p4 : (n1 : Int) ≤ n4 := by omega
    clear hT1 hT2 hT3 hT4 hA hB hC hb4 b34 b24 b14 b0 b1 b2 b3 b4 b01 b02 b03 hx hy m2 m3 m4 Hb1 Hb2 Hb3
    go_wp2_with fail
    refine HT1.out.mono ?_
    rintro e w5 ⟨rfl, rfl⟩
    go_wp2_with fail
    refine HT2.out.mono ?_
    rintro e w5 ⟨rfl, rfl⟩
    go_wp2_with fail
    refine HT3.out.mono ?_
    rintro e w5 ⟨rfl, rfl⟩
    go_wp2_with fail
    refine HT4.out.mono ?_
    rintro e w5 ⟨rfl, rfl⟩
    go_wp2
    go_ret
    exact ⟨rfl, b04⟩
  · have Hf := Lib.hid hf
    clear hf
    go_wp2_with fail
    refine (Far_any frames asks a cap _ (hx.below b0) hl hcap hcm).mono ?_
    rintro e w1 ⟨⟨hno, _⟩ | ⟨_, rfl, hk1⟩, b1⟩
    · exact absurd hno Hf.out
    have b01 := b0.trans (b1.mono b0.size)
    go_wp2_with fail
    refine (Told_any frames asks picks a ap cap capp _ (hx.below b01) hl (hy.below b01) hlp hwf).mono ?_
    rintro e w2 ⟨⟨hno, _⟩ | ⟨_, rfl, hk2⟩, b2⟩
    · exact absurd hno Hf.out
    have b02 := b01.trans (b2.mono b01.size)
    go_wp2_with fail
    refine (Lru_any frames asks a cap _ (hx.below b02) hl).mono ?_
    rintro e w3 ⟨⟨hno, _⟩ | ⟨_, rfl, hk3⟩, b3⟩
    · exact absurd hno Hf.out
    have b03 := b02.trans (b3.mono b02.size)
    go_wp2_with fail
    refine (Fifo_any frames asks a cap _ (hx.below b03) hl).mono ?_
    rintro e w4 ⟨⟨hno, _⟩ | ⟨_, rfl, hk4⟩, b4⟩
    · exact absurd hno Hf.out
    have b04 := b03.trans (b4.mono b03.size)
    generalize chkP frames asks = c1 at *
    go_wp2
    go_ret
    exact ⟨rfl, b04⟩

/-! ### the first ask -/
def fst1 (l : List Int) (i k : Nat) : Bool := decide (∀ j, j < k → pg l j ≠ pg l i)
theorem fst1_succ (l : List Int) (i k : Nat) : fst1 l i (k + 1) = (fst1 l i k && decide (pg l k ≠ pg l i)) := by
  unfold fst1
  rw [← Bool.decide_and]
  refine decide_eq_decide.2 ⟨fun h => ⟨fun j hj => h j (by omega), h k (by omega)⟩, fun h j hj => ?_⟩
  rcases Nat.lt_or_ge j k with c | c
  · exact h.1 j c
  · obtain rfl : j = k := by omega
    exact h.2
theorem fst1_La (l : List Int) (i : Nat) : fst1 l i i = decide (La l i (pg l i) = 0) := by
  unfold fst1
  refine decide_eq_decide.2 ⟨fun h => ?_, fun h j hj e => ?_⟩
  · rcases Nat.eq_zero_or_pos (La l i (pg l i)) with c | c
    · exact c
    · have h1 := La_at l i _ c
      have h2 := La_le l i (pg l i)
      exact absurd h1 (h _ (by omega))
  · have := La_ge (l := l) hj e
    omega
theorem firsts_le_self (l : List Int) : ∀ t, firsts l t ≤ t
  | 0 => Nat.le_refl _
  | t + 1 => by
    have := firsts_le_self l t
    simp only [firsts]; split <;> omega

set_option maxRecDepth 100000 in
set_option maxHeartbeats 4000000 in
theorem PageFirst_walk (frames : Int) (asks picks : List Int) (a ap : Option Addr) (cap capp : Nat) (w : World) (hx : Ints w a asks) (hl : asks.length ≤ 9223372036854775807)
    (hy : Ints w ap picks) (hlp : picks.length ≤ 9223372036854775807) (hwf : ∀ n ∈ picks, -9223372036854775808 ≤ n ∧ n ≤ 9223372036854775807) :
    Calls Try.prog 3 #[.int .i64 frames, .slice a asks.length cap, .slice ap picks.length capp] w fun e w' => e = .returned (.bool true) ∧ Below w.heap.size w w' := by
  go_enter Try.func3, Try.ntmps3
  go_wp2_with fail
  refine (pageFact_any _).mono ?_
  rintro e w0 ⟨rfl, b0⟩
  by_cases hf : FineP frames asks
  · have h60 := hf.short
    have r1 := hf.r1
    have r2 := hf.r2
    have Hf := Lib.hid hf
    clear hf
    go_wp2_with fail
    refine (Told_any frames asks picks a ap cap capp _ (hx.below b0) hl (hy.below b0) hlp hwf).mono ?_
    rintro e w1 ⟨⟨_, g1, rfl, hb1, hg1⟩ | ⟨hno, _⟩, b1⟩
    rotate_left
    · exact absurd Hf.out hno
    have b01 := b0.trans (b1.mono b0.size)
    have Hb1 := Lib.hid hb1
    clear hb1
    go_wp2_with fail
    refine (Fifo_any frames asks a cap _ (hx.below b01) hl).mono ?_
    rintro e w2 ⟨⟨_, g2, rfl, hb2, hg2⟩ | ⟨hno, _⟩, b2⟩
    rotate_left
    · exact absurd Hf.out hno
    have b02 := b01.trans (b2.mono b01.size)
    obtain ⟨f, rfl⟩ := Int.eq_ofNat_of_zero_le (show 0 ≤ frames by omega)
    have hA : BRow w2 g1 asks.length (missL asks (hnd (f : Int).toNat asks (KTold picks))) := Hb1.out.of_block (b2.block g1 Hb1.out.lt)
    rw [Int.toNat_natCast] at hA hb2
    have D1 := (told_run (f := f) (l := asks) (picks := picks) (by omega)).dem
    have D2 := (fifo_run (f := f) (l := asks) (by omega)).dem
    have hT1 := fun q => true_quiet _ asks.length g1 asks.length w2 hA (by omega) q
    have hT2 := fun q => true_quiet _ asks.length g2 asks.length w2 hb2 (by omega) q
    have hfew1 := fun h => (few_pages D1 h asks.length (Nat.le_refl _)).1
    have hfew2 := fun h => (few_pages D2 h asks.length (Nat.le_refl _)).1
    rw [← ones_bits asks _ _ (Nat.le_refl _)] at hfew1 hfew2
    have hbit1 : ∀ t, t < asks.length → La asks t (pg asks t) = 0 → w2.cell? ⟨g1, t, none⟩ = some (.bool true) := fun t ht h => by
      rw [hA.cell ht, bits_at asks _ ht, decide_eq_true (first_misses D1 ht h)]
    have hbit2 : ∀ t, t < asks.length → La asks t (pg asks t) = 0 → w2.cell? ⟨g2, t, none⟩ = some (.bool true) := fun t ht h => by
      rw [hb2.cell ht, bits_at asks _ ht, decide_eq_true (first_misses D2 ht h)]
    have o1 := ones_le (missL asks (hnd f asks (KTold picks))) asks.length
    have o2 := ones_le (missL asks (hnd f asks KFifo)) asks.length
    generalize ones (missL asks (hnd f asks (KTold picks))) asks.length = n1 at *
    generalize ones (missL asks (hnd f asks KFifo)) asks.length = n2 at *
    have HT1 := Lib.hid hT1
    have HT2 := Lib.hid hT2
    have HF1 := Lib.hid hfew1
    have HF2 := Lib.hid hfew2
    have HB1 := Lib.hid hbit1
    have HB2 := Lib.hid hbit2
    have Hx := Lib.hid (hx.below b02)
    have hne : ((asks.length : Int) != (asks.length : Int)) = false := by simp
    clear hT1 hT2 hfew1 hfew2 hbit1 hbit2 hA hb2 D1 D2 hx hy b0 b1 b2 b01 Hb1
    go_wp2
    go_loopw [12, 13] (fun c i wr => ∃ k : Nat, i = .int .i64 k ∧ k ≤ asks.length ∧ c = .int .i64 (firsts asks k : Nat) ∧ ∃ q, wr = w2.drewN q) (fun _ i _ => asks.length - (intOf i).toNat)
    case atStart => exact ⟨0, rfl, Nat.zero_le _, rfl, 0, rfl⟩
    case round =>
      obtain ⟨k, rfl, hk, rfl, q, rfl⟩ := hrel
      have hfs := firsts_le_self asks k
      rcases Nat.lt_or_ge k asks.length with hlt | hge
      · have hltI : (k : Int) < asks.length := by omega
        go_wp2
        go_loopw [14, 15] (fun b i wr => ∃ m : Nat, i = .int .i64 m ∧ m ≤ k ∧ b = .bool (fst1 asks k m) ∧ ∃ q, wr = w2.drewN q) (fun _ i _ => k - (intOf i).toNat)
        case atStart => exact ⟨0, rfl, Nat.zero_le _, rfl, q, rfl⟩
        case round =>
          obtain ⟨m, rfl, hm, rfl, q, rfl⟩ := hrel
          obtain ⟨bx, ox, rfl, hc⟩ := Hx.out.open (by omega)
          rcases Nat.lt_or_ge m k with hmk | hmk
          · have c1 : w2.cell? ⟨bx, ox + m, none⟩ = some (.int .i64 (pg asks m)) := hc m (by omega)
            have c2 : w2.cell? ⟨bx, ox + k, none⟩ = some (.int .i64 (pg asks k)) := hc k hlt
            have hS := fst1_succ asks k m
            have hmI : (m : Int) < asks.length := by omega
            clear hc
            generalize fst1 asks k m = sb at *
            generalize hu : pg asks m = u at c1 hS
            generalize hv : pg asks k = v at c2 hS
            have HS := Lib.hid hS
            clear hS hu hv
            rcases sb with _ | _
            · go_wp2
              go_quiet (fail)
              go_wp2
              go_roundw
              case rel => exact ⟨m + 1, by go_num, by omega, by rw [HS.out]; rfl, _, by first | rfl | rw [World.drewN_drewN]⟩
              case measure => simp only [intOf]; omega
            · by_cases e : u = v
              · have t1 : (u != v) = false := by rw [e]; simp
                have E := Lib.hid e
                clear e
                go_wp2
                go_quiet (fail)
                go_wp2
                go_roundw
                case rel => exact ⟨m + 1, by go_num, by omega, by rw [HS.out, E.out]; simp, _, by first | rfl | rw [World.drewN_drewN]⟩
                case measure => simp only [intOf]; omega
              · have t1 : (u != v) = true := by rw [bne_iff_ne]; exact e
                have E := Lib.hid e
                clear e
                go_wp2
                go_quiet (fail)
                go_wp2
                go_roundw
                case rel => exact ⟨m + 1, by go_num, by omega, by rw [HS.out, decide_eq_true E.out]; rfl, _, by first | rfl | rw [World.drewN_drewN]⟩
                case measure => simp only [intOf]; omega
          · obtain rfl : m = k := by omega
            have h3 : decide (m < m) = false := by simp
            have hsu : firsts asks (m + 1) = firsts asks m + if La asks m (pg asks m) = 0 then 1 else 0 := rfl
            rw [fst1_La]
            clear hc
            by_cases hL : La asks m (pg asks m) = 0
            · have c1 := HB1.out m hlt hL
              have c2 := HB2.out m hlt hL
              have c1' : (w2.drewN q).cell? ⟨g1, m, none⟩ = some (.bool true) := c1
              have c2' : (w2.drewN q).cell? ⟨g2, m, none⟩ = some (.bool true) := c2
              rw [if_pos hL] at hsu
              rw [decide_eq_true hL]
              have HSu := Lib.hid hsu
              clear hsu hL c1 c2
              generalize firsts asks m = fm at *
              go_wp2
              go_roundw
              case rel => exact ⟨m + 1, by go_num, by omega, by rw [HSu.out]; go_num, q, rfl⟩
              case measure => simp only [intOf]; omega
            · rw [if_neg hL] at hsu
              rw [decide_eq_false hL]
              have HSu := Lib.hid hsu
              clear hsu hL
              generalize firsts asks m = fm at *
              go_wp2
              go_roundw
              case rel => exact ⟨m + 1, by go_num, by omega, by rw [HSu.out]; rfl, q, rfl⟩
              case measure => simp only [intOf]; omega
      · obtain rfl : asks.length = k := by omega
        have h3 : decide (asks.length < asks.length) = false := by simp
        rcases Nat.lt_or_ge f (firsts asks asks.length) with hff | hff
        · have hffI : (f : Int) < (firsts asks asks.length : Nat) := by omega
          generalize firsts asks asks.length = fm at *
          go_wp2
          go_ret
          exact ⟨rfl, drewN_below b02 _⟩
        · have e1 := HF1.out hff
          have e2 := HF2.out hff
          have hffI : ((firsts asks asks.length : Nat) : Int) ≤ f := by omega
          generalize firsts asks asks.length = fm at *
          subst e1
          have e3 : ((n1 : Int) == (n1 : Int)) = true := by simp
          have h2 := HT2.out q
          rw [e2] at h2
          have H1 := Lib.hid (HT1.out q)
          have H2 := Lib.hid h2
          clear h2 e2
          go_wp2_with fail
          refine H1.out.mono ?_
          rintro e w5 ⟨rfl, rfl⟩
          go_wp2_with fail
          refine H2.out.mono ?_
          rintro e w5 ⟨rfl, rfl⟩
          go_wp2
          go_ret
          exact ⟨rfl, drewN_below b02 _⟩
  · have Hf := Lib.hid hf
    clear hf
    go_wp2_with fail
    refine (Told_any frames asks picks a ap cap capp _ (hx.below b0) hl (hy.below b0) hlp hwf).mono ?_
    rintro e w2 ⟨⟨hno, _⟩ | ⟨_, rfl, hk2⟩, b2⟩
    · exact absurd hno Hf.out
    have b02 := b0.trans (b2.mono b0.size)
    go_wp2_with fail
    refine (Fifo_any frames asks a cap _ (hx.below b02) hl).mono ?_
    rintro e w4 ⟨⟨hno, _⟩ | ⟨_, rfl, hk4⟩, b4⟩
    · exact absurd hno Hf.out
    have b04 := b02.trans (b4.mono b02.size)
    generalize chkP frames asks = c1 at *
    go_wp2
    go_ret
    exact ⟨rfl, b04⟩
end Go.Proofs.Ytdamnadamijacaa
