/- WALK: the law QuotSays. -/
import Derived.Test.YtjbhgdhdkjfmnaaDoorRefLess
import Derived.Test.YtjbhgdhdkjfmnaaDoorErr
namespace Go.Proofs.YtjbhgdhdkjfmnaaDoor
open Go Go.RowKit QuotPlain

theorem Err0 (w : World) (hg : Handle w) : Calls Tryd.prog 6 #[.nilIface, .int .i64 0] w fun e w' => e = .returned (.bool true) ∧ Below w.heap.size w w' := Error_any 0 0 w hg
theorem Err1 (n : Int) (hn : n ≠ 0) (w : World) (hg : Handle w) : Calls Tryd.prog 6 #[.iface 33 (.int .i64 n), .int .i64 n] w fun e w' => e = .returned (.bool true) ∧ Below w.heap.size w w' := by
  have := Error_any n n w hg
  rw [errV_bad hn] at this
  exact this.mono fun e w' h => ⟨by rw [h.1]; simp, h.2⟩
theorem rng (p q : Int) : (okP p ∧ okQ q) ∨ (¬ (okP p ∧ okQ q) ∧ (p < -9007199254740992 ∨ (-9007199254740992 ≤ p ∧ 9007199254740992 < p) ∨ (-9007199254740992 ≤ p ∧ p ≤ 9007199254740992 ∧ q < 1) ∨ (-9007199254740992 ≤ p ∧ p ≤ 9007199254740992 ∧ 1 ≤ q ∧ 9007199254740992 < q))) := by
  unfold okP okQ; omega

set_option maxHeartbeats 4000000 in
theorem QuotSays_walk (p q r s : Int) (w : World) (hg : Handle w) :
    Calls Tryd.prog 3 #[.int .i64 p, .int .i64 q, .int .i64 r, .int .i64 s] w fun e w' => e = .returned (.bool true) ∧ Below w.heap.size w w' := by
  rcases rng p q with ⟨hp, hq⟩ | ⟨hpq, hpq'⟩
  · have hp' := hp
    have hq' := hq
    obtain ⟨p1, p2⟩ := hp'
    obtain ⟨q1, q2⟩ := hq'
    have HB := Lib.hid (RefBits_any p q hp hq)
    have HQ := Lib.hid (Bits_yes p q hp hq)
    have hxx : ((qbits p q : Int) == (qbits p q : Int)) = true := by simp
    rcases rng r s with ⟨hr, hs⟩ | ⟨hrs, hrs'⟩
    · have HL := Lib.hid (RefLess_any p q r s hp hq hr hs)
      have HM := Lib.hid (Less_yes p q r s hp hq hr hs)
      obtain ⟨r1, r2⟩ := hr
      obtain ⟨s1, s2⟩ := hs
      have hll : (lessB p q r s == lessB p q r s) = true := by simp
      generalize qbits p q = X at HB HQ hxx
      generalize lessB p q r s = Y at HL HM hll
      clear hp hq
      go_enter Tryd.func3, Tryd.ntmps3
      go_wp2_with fail
      refine (HB.out _).mono ?_
      rintro e w1 ⟨rfl, rfl⟩
      go_wp2_with fail
      refine (HQ.out _).mono ?_
      rintro e w1 ⟨rfl, rfl⟩
      go_wp2_with fail
      refine (Err0 _ hg).mono ?_
      rintro e w1 ⟨rfl, b1⟩
      have hg1 := hg.to b1
      go_wp2_with fail
      refine (HL.out _).mono ?_
      rintro e w2 ⟨rfl, rfl⟩
      go_wp2_with fail
      refine (HM.out _).mono ?_
      rintro e w2 ⟨rfl, rfl⟩
      go_wp2_with fail
      refine (Err0 _ hg1).mono ?_
      rintro e w2 ⟨rfl, b2⟩
      have b3 := b1.trans (b2.mono b1.size)
      go_wp2
      go_ret
      exact ⟨rfl, b3⟩
    · have HM := Lib.hid (Less_no p q r s (fun h => hrs ⟨h.2.2.1, h.2.2.2⟩))
      generalize qbits p q = X at HB HQ hxx
      clear hp hq hrs
      rcases hrs' with h1 | ⟨h1, h2⟩ | ⟨h1, h2, h3⟩ | ⟨h1, h2, h3, h4⟩
      all_goals
        go_enter Tryd.func3, Tryd.ntmps3
        go_wp2_with fail
        refine (HB.out _).mono ?_
        rintro e w1 ⟨rfl, rfl⟩
        go_wp2_with fail
        refine (HQ.out _).mono ?_
        rintro e w1 ⟨rfl, rfl⟩
        go_wp2_with fail
        refine (Err0 _ hg).mono ?_
        rintro e w1 ⟨rfl, b1⟩
        have hg1 := hg.to b1
        go_wp2_with fail
        refine (HM.out _).mono ?_
        rintro e w2 ⟨rfl, rfl⟩
        go_wp2_with fail
        refine (Err1 1 (by decide) _ hg1).mono ?_
        rintro e w2 ⟨rfl, b2⟩
        have b3 := b1.trans (b2.mono b1.size)
        go_wp2
        go_ret
        exact ⟨rfl, b3⟩
  · have HQ := Lib.hid (Bits_no p q hpq)
    have HM := Lib.hid (Less_no p q r s (fun h => hpq ⟨h.1, h.2.1⟩))
    have hR := rng r s
    clear hpq
    have hR' : (-9007199254740992 ≤ r ∧ r ≤ 9007199254740992 ∧ 1 ≤ s ∧ s ≤ 9007199254740992) ∨ (r < -9007199254740992 ∨ (-9007199254740992 ≤ r ∧ 9007199254740992 < r) ∨ (-9007199254740992 ≤ r ∧ r ≤ 9007199254740992 ∧ s < 1) ∨ (-9007199254740992 ≤ r ∧ r ≤ 9007199254740992 ∧ 1 ≤ s ∧ 9007199254740992 < s)) := by omega
    clear hR
    rcases hpq' with h1 | ⟨h1, h2⟩ | ⟨h1, h2, h3⟩ | ⟨h1, h2, h3, h4⟩
    all_goals
      rcases hR' with ⟨k1, k2, k3, k4⟩ | k1 | ⟨k1, k2⟩ | ⟨k1, k2, k3⟩ | ⟨k1, k2, k3, k4⟩
      all_goals
        go_enter Tryd.func3, Tryd.ntmps3
        go_wp2_with fail
        refine (HQ.out _).mono ?_
        rintro e w1 ⟨rfl, rfl⟩
        go_wp2_with fail
        refine (Err1 1 (by decide) _ hg).mono ?_
        rintro e w1 ⟨rfl, b1⟩
        have hg1 := hg.to b1
        go_wp2_with fail
        refine (HM.out _).mono ?_
        rintro e w2 ⟨rfl, rfl⟩
        go_wp2_with fail
        refine (Err1 1 (by decide) _ hg1).mono ?_
        rintro e w2 ⟨rfl, b2⟩
        have b3 := b1.trans (b2.mono b1.size)
        go_wp2
        go_ret
        exact ⟨rfl, b3⟩
end Go.Proofs.YtjbhgdhdkjfmnaaDoor
