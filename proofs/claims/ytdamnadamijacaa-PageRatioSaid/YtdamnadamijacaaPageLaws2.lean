/- WALK: the law PageRatio. -/
import Derived.Test.YtdamnadamijacaaPageLaws
namespace Go.Proofs.Ytdamnadamijacaa
open Go Go.RowKit PagePlain

theorem mul_bound {a b A B : Nat} (h1 : a ≤ A) (h2 : b ≤ B) : a * b ≤ A * B := Nat.mul_le_mul h1 h2
set_option maxRecDepth 100000 in
set_option maxHeartbeats 2000000 in
theorem PageRatio_walk (k h : Int) (asks : List Int) (a : Option Addr) (cap : Nat) (w : World) (hx : Ints w a asks) (hl : asks.length ≤ 9223372036854775807) (hcap : asks.length ≤ cap) (hcm : cap ≤ 9223372036854775807) :
    Calls Try.prog 5 #[.int .i64 k, .int .i64 h, .slice a asks.length cap] w fun e w' => e = .returned (.bool true) ∧ Below w.heap.size w w' := by
  go_enter Try.func5, Try.ntmps5
  go_wp2_with fail
  refine (pageFact_any _).mono ?_
  rintro e w0 ⟨rfl, b0⟩
  go_wp2_with fail
  refine (Lru_any k asks a cap _ (hx.below b0) hl).mono ?_
  rintro e w1 ⟨⟨hf, g1, rfl, hb1, hg1⟩ | ⟨_, rfl, hk1⟩, b1⟩
  rotate_left
  · have b01 := b0.trans (b1.mono b0.size)
    generalize chkP k asks = c1 at *
    go_wp2_with fail
    refine (Far_any h asks a cap _ (hx.below b01) hl hcap hcm).mono ?_
    intro e w2 hr2
    obtain ⟨x2, y2, rfl, b2⟩ := pageRes_any hr2
    have b02 := b01.trans (b2.mono b01.size)
    clear hr2
    go_wp2
    go_ret
    exact ⟨rfl, b02⟩
  have b01 := b0.trans (b1.mono b0.size)
  have Hf := Lib.hid hf
  have Hb1 := Lib.hid hb1
  have h60 := hf.short
  clear hf hb1
  go_wp2_with fail
  refine (Far_any h asks a cap _ (hx.below b01) hl hcap hcm).mono ?_
  rintro e w2 ⟨⟨hf2, g2, rfl, hb2, hg2⟩ | ⟨_, rfl, hk2⟩, b2⟩
  rotate_left
  · have b02 := b01.trans (b2.mono b01.size)
    generalize chkP h asks = c1 at *
    go_wp2
    go_ret
    exact ⟨rfl, b02⟩
  have b02 := b01.trans (b2.mono b01.size)
  rcases Int.lt_or_le k h with hkh | hkh
  · clear hf2 hb2
    go_wp2
    go_ret
    exact ⟨rfl, b02⟩
  have q1 := Hf.out.r1
  have q2 := Hf.out.r2
  have q3 := hf2.r1
  have q4 := hf2.r2
  obtain ⟨K, rfl⟩ := Int.eq_ofNat_of_zero_le (show 0 ≤ k by omega)
  obtain ⟨H, rfl⟩ := Int.eq_ofNat_of_zero_le (show 0 ≤ h by omega)
  have hKH : H ≤ K := by omega
  have hA : BRow w2 g1 asks.length (missL asks (hnd (K : Int).toNat asks KLru)) := Hb1.out.of_block (b2.block g1 Hb1.out.lt)
  rw [Int.toNat_natCast] at hA hb2
  have hT1 := true_any _ asks.length g1 asks.length w2 hA (by omega)
  have hT2 := true_any _ asks.length g2 asks.length w2 hb2 (by omega)
  have hr := ratio (k := K) (h := H) (l := asks) (by omega) hKH (lru_run (by omega)) (far_run (by omega)).dem asks.length (Nat.le_refl _)
  rw [← ones_bits asks _ _ (Nat.le_refl _), ← ones_bits asks _ _ (Nat.le_refl _)] at hr
  have o1 := ones_le (missL asks (hnd K asks KLru)) asks.length
  have o2 := ones_le (missL asks (hnd H asks (KFar asks))) asks.length
  generalize ones (missL asks (hnd K asks KLru)) asks.length = x at hT1 hr o1
  generalize ones (missL asks (hnd H asks (KFar asks))) asks.length = y at hT2 hr o2
  have m1 : (K - H + 1) * x ≤ 9 * 60 := mul_bound (by omega) (by omega)
  have m2 : K * y ≤ 8 * 60 := mul_bound (by omega) (by omega)
  have m3 : (K - H + 1) * H ≤ 9 * 8 := mul_bound (by omega) (by omega)
  have e0 : ((K - H + 1 : Nat) : Int) = (K : Int) - H + 1 := by omega
  have e1 : ((K : Int) - H + 1) * x = (((K - H + 1) * x : Nat) : Int) := by rw [Int.natCast_mul, e0]
  have e2 : (K : Int) * y = ((K * y : Nat) : Int) := by rw [Int.natCast_mul]
  have e3 : ((K : Int) - H + 1) * H = (((K - H + 1) * H : Nat) : Int) := by rw [Int.natCast_mul, e0]
  have n1 : ((K : Int) - H + 1) * x ≤ (K : Int) * y + ((K : Int) - H + 1) * H := by rw [e1, e2, e3]; omega
  have n2 : 0 ≤ ((K : Int) - H + 1) * x := by rw [e1]; omega
  have n3 : ((K : Int) - H + 1) * x ≤ 540 := by rw [e1]; omega
  have n4 : 0 ≤ (K : Int) * y := by rw [e2]; omega
  have n5 : (K : Int) * y ≤ 480 := by rw [e2]; omega
  have n6 : 0 ≤ ((K : Int) - H + 1) * H := by rw [e3]; omega
  have n7 : ((K : Int) - H + 1) * H ≤ 72 := by rw [e3]; omega
  have HT1 := Lib.hid hT1
  have HT2 := Lib.hid hT2
  clear hT1 hT2 hA hb2 hf2 e1 e2 e3 e0 m1 m2 m3 hr
  go_wp2_with fail
  refine HT1.out.mono ?_
  rintro e w5 ⟨rfl, rfl⟩
  go_wp2_with fail
  refine HT2.out.mono ?_
  rintro e w5 ⟨rfl, rfl⟩
  go_wp2
  go_ret
  exact ⟨rfl, b02⟩
end Go.Proofs.Ytdamnadamijacaa
