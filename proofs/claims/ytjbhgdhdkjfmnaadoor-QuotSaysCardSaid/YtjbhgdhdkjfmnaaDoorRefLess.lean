/- WALKS: the reference's floor, Less. -/
import Derived.Test.YtjbhgdhdkjfmnaaDoorRefQuot
namespace Go.Proofs.YtjbhgdhdkjfmnaaDoor
open Go Go.RowKit QuotPlain

theorem tdiv_facts (p q : Int) (hp : okP p) (hq : okQ q) : ∃ n : Int, Int.tdiv p q = n ∧ -9007199254740992 ≤ n ∧ n ≤ 9007199254740992 ∧ p - q < n * q ∧ n * q < p + q := by
  obtain ⟨p1, p2⟩ := hp
  obtain ⟨q1, q2⟩ := hq
  rcases Int.lt_or_le p 0 with h | h
  · have e : Int.tdiv p q = -((-p) / q) := by
      rw [← Int.tdiv_eq_ediv_of_nonneg (show 0 ≤ -p by omega), Int.neg_tdiv, Int.neg_neg]
    refine ⟨-((-p) / q), e, ?_⟩
    have a1 := Int.emod_add_mul_ediv (-p) q
    have a2 := Int.emod_nonneg (-p) (show q ≠ 0 by omega)
    have a3 := Int.emod_lt_of_pos (-p) (show 0 < q by omega)
    have a4 := Int.ediv_nonneg (show 0 ≤ -p by omega) (show 0 ≤ q by omega)
    have a5 := Int.ediv_le_self q (show 0 ≤ -p by omega)
    rw [Int.neg_mul, Int.mul_comm ((-p) / q)]
    omega
  · refine ⟨p / q, Int.tdiv_eq_ediv_of_nonneg h, ?_⟩
    have a1 := Int.emod_add_mul_ediv p q
    have a2 := Int.emod_nonneg p (show q ≠ 0 by omega)
    have a3 := Int.emod_lt_of_pos p (show 0 < q by omega)
    have a4 := Int.ediv_nonneg h (show 0 ≤ q by omega)
    have a5 := Int.ediv_le_self q h
    rw [Int.mul_comm (p / q)]
    omega
def IsFloor (p q x : Int) : Prop := x * q ≤ p ∧ p < x * q + q
theorem floor_any (p q : Int) (hp : okP p) (hq : okQ q) (w : World) :
    Calls Tryd.prog 12 #[.int .i64 p, .int .i64 q] w fun e w' => (∃ x, e = .returned (.int .i64 x) ∧ IsFloor p q x) ∧ w = w' := by
  obtain ⟨n, hn, f1, f2, f3, f4⟩ := tdiv_facts p q hp hq
  obtain ⟨p1, p2⟩ := hp
  obtain ⟨q1, q2⟩ := hq
  go_enter Tryd.func12, Tryd.ntmps12
  rcases Int.lt_or_le p (n * q) with h | h
  · go_wp2
    go_ret
    exact ⟨⟨n - 1, rfl, by unfold IsFloor; rw [Int.sub_mul, Int.one_mul]; omega⟩, rfl⟩
  · go_wp2
    go_ret
    exact ⟨⟨n, rfl, by unfold IsFloor; omega⟩, rfl⟩

set_option maxHeartbeats 2000000 in
theorem RefLess_n (n : Nat) : ∀ (p q r s : Int), okP p → okQ q → okP r → okQ s → q + s ≤ n → ∀ w : World,
    Calls Tryd.prog 7 #[.int .i64 p, .int .i64 q, .int .i64 r, .int .i64 s] w fun e w' => e = .returned (.bool (lessB p q r s)) ∧ w = w' := by
  induction n with
  | zero => intro p q r s _ hq _ hs h; obtain ⟨q1, _⟩ := hq; obtain ⟨s1, _⟩ := hs; omega
  | succ n ih =>
    intro p q r s hp hq hr hs hn w
    have IH := Lib.hid ih
    clear ih
    have hp' := hp
    have hq' := hq
    have hr' := hr
    have hs' := hs
    obtain ⟨p1, p2⟩ := hp'
    obtain ⟨q1, q2⟩ := hq'
    obtain ⟨r1, r2⟩ := hr'
    obtain ⟨s1, s2⟩ := hs'
    go_enter Tryd.func7, Tryd.ntmps7
    go_wp2_with fail
    refine (floor_any p q hp hq _).mono ?_
    rintro e w' ⟨⟨x, rfl, hx⟩, rfl⟩
    go_wp2_with fail
    refine (floor_any r s hr hs _).mono ?_
    rintro e w' ⟨⟨y, rfl, hy⟩, rfl⟩
    have hx' := hx
    have hy' := hy
    obtain ⟨x1, x2⟩ := hx'
    obtain ⟨y1, y2⟩ := hy'
    have Hx := Lib.hid hx
    have Hy := Lib.hid hy
    clear hx hy hp hr
    by_cases hxy : x = y
    · subst hxy
      have hne : (x != x) = false := by simp
      have hrest := less_rest (p := p) (q := q) (r := r) (s := s) (x := x)
      have Hrest := Lib.hid hrest
      clear hrest
      by_cases h1 : p - x * q = 0
      · have e1 : (p - x * q == 0) = true := by rw [beq_iff_eq]; exact h1
        by_cases h2 : r - x * s = 0
        · have e2 : (r - x * s == 0) = true := by rw [beq_iff_eq]; exact h2
          have e3 : (r - x * s != 0) = false := by rw [bne_eq_false_iff_eq]; exact h2
          have hL : lessB p q r s = false := by
            unfold lessB
            rw [decide_eq_false_iff_not, Hrest.out, h1, h2]; simp
          have HL := Lib.hid hL
          clear h1 h2 hL
          go_wp2
          go_ret
          exact ⟨ret_bool HL.out.symm, rfl⟩
        · have e2 : (r - x * s == 0) = false := by rw [beq_eq_false_iff_ne]; exact h2
          have e3 : (r - x * s != 0) = true := by rw [bne_iff_ne]; exact h2
          have hL : lessB p q r s = true := by
            unfold lessB
            rw [decide_eq_true_eq, Hrest.out, h1, Int.zero_mul]
            exact Int.mul_pos (by omega) (by omega)
          have HL := Lib.hid hL
          clear h1 h2 hL
          go_wp2
          go_ret
          exact ⟨ret_bool HL.out.symm, rfl⟩
      · have e1 : (p - x * q == 0) = false := by rw [beq_eq_false_iff_ne]; exact h1
        by_cases h2 : r - x * s = 0
        · have e2 : (r - x * s == 0) = true := by rw [beq_iff_eq]; exact h2
          have hL : lessB p q r s = false := by
            unfold lessB
            rw [decide_eq_false_iff_not, Hrest.out, h2, Int.zero_mul]
            have := Int.mul_pos (show 0 < p - x * q by omega) (show 0 < s by omega)
            omega
          have HL := Lib.hid hL
          clear h1 h2 hL
          go_wp2
          go_ret
          exact ⟨ret_bool HL.out.symm, rfl⟩
        · have e2 : (r - x * s == 0) = false := by rw [beq_eq_false_iff_ne]; exact h2
          have hL : lessB p q r s = lessB s (r - x * s) q (p - x * q) := by
            unfold lessB
            rw [decide_eq_decide, Hrest.out, Int.mul_comm s, Int.mul_comm q]
          have hI := IH.out s (r - x * s) q (p - x * q) ⟨by omega, by omega⟩ ⟨by omega, by omega⟩ ⟨by omega, by omega⟩ ⟨by omega, by omega⟩ (by omega) w
          have HI := Lib.hid hI
          have HL := Lib.hid hL
          clear h1 h2 hL hI
          generalize lessB s (r - x * s) q (p - x * q) = L at HI HL
          go_wp2_with fail
          refine HI.out.mono ?_
          rintro e w' ⟨rfl, rfl⟩
          go_wp2
          go_ret
          exact ⟨ret_bool HL.out.symm, rfl⟩
    · have hne : (x != y) = true := by rw [bne_iff_ne]; exact hxy
      have hL : lessB p q r s = decide (x < y) := by
        unfold lessB
        rw [decide_eq_decide]
        exact less_whole (by omega) (by omega) Hx.out Hy.out hxy
      have HL := Lib.hid hL
      clear hxy hL
      go_wp2
      all_goals
        go_ret
        first
          | exact ⟨ret_bool HL.out.symm, rfl⟩
          | exact ⟨ret_bool (by rw [HL.out]; simp; omega), rfl⟩
theorem RefLess_any (p q r s : Int) (hp : okP p) (hq : okQ q) (hr : okP r) (hs : okQ s) (w : World) :
    Calls Tryd.prog 7 #[.int .i64 p, .int .i64 q, .int .i64 r, .int .i64 s] w fun e w' => e = .returned (.bool (lessB p q r s)) ∧ w = w' :=
  RefLess_n (q + s).toNat p q r s hp hq hr hs (by obtain ⟨q1, _⟩ := hq; obtain ⟨s1, _⟩ := hs; omega) w
end Go.Proofs.YtjbhgdhdkjfmnaaDoor
