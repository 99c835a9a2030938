/- WALKS: coins.Check, coins.both, coins.Greedy, coins.Best, coins.Always, ricksteadsame.Sum, ricksteadlaw5.worth: what each computes. -/
import Derived.Test.YtomgcfjdmoefgaaDoorCoinsWalksC
namespace Go.Proofs.YtomgcfjdmoefgaaDoor
open Go Go.RowKit CoinsPlain

/-! ### Check -/
def badNext : Option Int → Int → Bool
  | none, n => n != 1
  | some q, n => decide (n ≤ q)
def chkL : Option Int → List Int → Int
  | _, [] => 0
  | p, n :: l => if n < 1 ∨ 60 < n then 1 else if badNext p n = true then 3 else chkL (some n) l
def chk (c : List Int) : Int := if c.length = 0 then 5 else if 6 < c.length then 4 else chkL none c
def prevO (c : List Int) : Nat → Option Int
  | 0 => none
  | k + 1 => some (c.getD k 0)
theorem drop_getD (c : List Int) (k : Nat) (h : k < c.length) : c.drop k = c.getD k 0 :: c.drop (k + 1) := by
  rw [List.getD_eq_getElem?_getD, List.getElem?_eq_getElem h]; exact List.drop_eq_getElem_cons h

theorem check_any (c : List Int) (a : Option Addr) (cap : Nat) (w : World) (hx : Ints w a c) (hl : c.length ≤ 9223372036854775807) :
    Calls Tryd.prog 19 #[.slice a c.length cap] w fun e w' => e = .returned (errV 81 (chk c)) ∧ w = w' := by
  by_cases h0 : c.length = 0
  · have e : chk c = 5 := by simp [chk, h0]
    rw [e, errV_bad (by decide)]
    clear e
    have hz : c = [] := List.eq_nil_of_length_eq_zero h0
    subst hz
    clear h0
    go_enter Tryd.func19, Tryd.ntmps19
    go_wp2
    go_ret
    exact ⟨rfl, rfl⟩
  have h1 : 0 < c.length := by omega
  clear h0
  have h2 : ((c.length : Int) == 0) = false := by rw [beq_eq_false_iff_ne]; omega
  by_cases h6 : 6 < c.length
  · have e : chk c = 4 := by simp only [chk]; rw [if_neg (by omega), if_pos h6]
    rw [e, errV_bad (by decide)]
    clear e
    have h6' : (6 : Int) < c.length := by omega
    go_enter Tryd.func19, Tryd.ntmps19
    go_wp2
    go_ret
    exact ⟨rfl, rfl⟩
  have e : chk c = chkL none c := by simp only [chk]; rw [if_neg (by omega), if_neg h6]
  rw [e]
  clear e
  have h6' : (c.length : Int) ≤ 6 := by omega
  clear h6
  go_enter Tryd.func19, Tryd.ntmps19
  go_wp2
  go_loop [15] (fun i => ∃ k : Nat, k ≤ c.length ∧ i = .int .i64 k ∧ chkL none c = chkL (prevO c k) (c.drop k)) (fun i => c.length - (intOf i).toNat)
  case atStart => exact ⟨0, Nat.zero_le _, rfl, rfl⟩
  case round =>
    obtain ⟨k, hk, rfl, hch⟩ := hrel
    rcases Nat.lt_or_ge k c.length with hlt | hge
    · obtain ⟨b, off, rfl, hc⟩ := hx.open h1
      have hck := hc k hlt
      rw [drop_getD c k hlt] at hch
      simp only [chkL] at hch
      have hcp := hc (k - 1) (by omega)
      clear hc
      have hpv : 0 < k → prevO c k = some (c.getD (k - 1) 0) := fun h => by cases k with | zero => omega | succ k => rfl
      generalize hv : c.getD k 0 = v at hck hch
      have Hv := Lib.hid hv
      clear hv
      generalize hu : c.getD (k - 1) 0 = u at hcp hpv
      have Hu := Lib.hid hu
      clear hu
      by_cases hr : v < 1 ∨ 60 < v
      · rw [if_pos hr] at hch
        have Hch := Lib.hid hch
        clear hch hpv
        have Hr := Lib.hid hr
        clear hr
        go_wp2_with (go_at_call 58; refine (within_no v 1 60 Hr.out _).mono ?_; rintro e w' ⟨rfl, rfl⟩)
        go_ret
        exact ⟨by rw [Hch.out]; rfl, rfl⟩
      · rw [if_neg hr] at hch
        have v1 : 1 ≤ v := by omega
        have v2 : v ≤ 60 := by omega
        clear hr
        by_cases hk0 : k = 0
        · subst hk0
          clear hpv hcp
          rw [Nat.add_zero] at hck
          by_cases hv1 : v = 1
          · subst hv1
            have hch' : chkL none c = chkL (some 1) (c.drop 1) := by simpa [prevO, badNext] using hch
            have Hch := Lib.hid hch'
            clear hch hch'
            go_wp2_with (go_at_call 58; refine (within_yes 1 1 60 (by omega) (by omega) _).mono ?_; rintro e w' ⟨rfl, rfl⟩)
            go_round
            case rel => exact ⟨1, by omega, by go_num, by rw [Hch.out]; simp only [prevO, Hv.out]⟩
            case measure => simp only [intOf]; omega
          · have hch' : chkL none c = 3 := by simpa [prevO, badNext, hv1] using hch
            have Hch := Lib.hid hch'
            clear hch hch'
            have t1 : (v == 1) = false := by rw [beq_eq_false_iff_ne]; exact hv1
            have t2 : (v != 1) = true := by rw [bne_iff_ne]; exact hv1
            clear hv1
            go_wp2_with (go_at_call 58; refine (within_yes v 1 60 v1 v2 _).mono ?_; rintro e w' ⟨rfl, rfl⟩)
            go_ret
            exact ⟨by rw [Hch.out]; rfl, rfl⟩
        · have hk1 : 0 < k := by omega
          have t1 : ((k : Int) == 0) = false := by rw [beq_eq_false_iff_ne]; omega
          have t2 : (0 : Int) < k := by omega
          clear hk0
          rw [hpv hk1] at hch
          clear hpv
          rcases Int.lt_or_le u v with huv | huv
          · have hch' : chkL none c = chkL (some v) (c.drop (k + 1)) := by simpa [badNext, Int.not_le.2 huv] using hch
            have Hch := Lib.hid hch'
            clear hch hch'
            go_wp2_with (go_at_call 58; refine (within_yes v 1 60 v1 v2 _).mono ?_; rintro e w' ⟨rfl, rfl⟩)
            go_round
            case rel => exact ⟨k + 1, by omega, by go_num, by rw [Hch.out]; simp only [prevO, Hv.out]⟩
            case measure => simp only [intOf]; omega
          · have hch' : chkL none c = 3 := by simpa [badNext, huv] using hch
            have Hch := Lib.hid hch'
            clear hch hch'
            go_wp2_with (go_at_call 58; refine (within_yes v 1 60 v1 v2 _).mono ?_; rintro e w' ⟨rfl, rfl⟩)
            go_ret
            exact ⟨by rw [Hch.out]; rfl, rfl⟩
    · have hkn : k = c.length := by omega
      subst hkn
      rw [List.drop_length] at hch
      have Hch := Lib.hid hch
      clear hch
      go_wp2
      go_ret
      exact ⟨by rw [Hch.out]; rfl, rfl⟩
end Go.Proofs.YtomgcfjdmoefgaaDoor
