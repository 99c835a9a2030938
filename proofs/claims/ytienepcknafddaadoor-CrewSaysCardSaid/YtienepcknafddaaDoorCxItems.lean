/- WALK: the reference's Items, and its Sort. -/
import Derived.Test.YtienepcknafddaaDoorM1
set_option linter.unusedVariables false
set_option linter.unusedSimpArgs false
namespace Go.Proofs.YtienepcknafddaaDoor
open Go Go.RowKit SimPlain HeapPlain SymPlain

theorem rin1_yes (n lo hi : Int) (h1 : lo ≤ n) (h2 : n ≤ hi) (w : World) : Calls Tryd.prog 9 #[.int .i64 n, .int .i64 lo, .int .i64 hi] w fun e w' => e = .returned (.bool true) ∧ w = w' := by
  go_enter Tryd.func9, Tryd.ntmps9
  go_wp2
  go_ret
  exact ⟨rfl, rfl⟩
theorem rin1_no (n lo hi : Int) (h : n < lo ∨ hi < n) (w : World) : Calls Tryd.prog 9 #[.int .i64 n, .int .i64 lo, .int .i64 hi] w fun e w' => e = .returned (.bool false) ∧ w = w' := by
  rcases Int.lt_or_le n lo with h1 | h1
  · clear h
    go_enter Tryd.func9, Tryd.ntmps9
    go_wp2
    go_ret
    exact ⟨rfl, rfl⟩
  · have h2 : hi < n := by omega
    have h3 : decide (n ≤ hi) = false := decide_eq_false (by omega)
    clear h
    go_enter Tryd.func9, Tryd.ntmps9
    go_wp2
    go_ret
    exact ⟨rfl, rfl⟩

set_option maxHeartbeats 1000000 in
theorem ritems_any (l : List Ev) (a : Option Addr) (cap : Nat) (w : World) (hx : EvA w a l) (hl : l.length ≤ 9223372036854775807) :
    Calls Tryd.prog 4 #[.slice a l.length cap] w fun e w' => e = .returned (.int .i64 (chkI l)) ∧ ∃ q, w' = w.drewN q := by
  by_cases h1 : 60 < l.length
  · have e : chkI l = 4 := by unfold chkI; rw [if_pos h1]
    rw [e]
    clear e
    have h1' : (60 : Int) < l.length := by omega
    go_enter Tryd.func4, Tryd.ntmps4
    go_wp2
    go_ret
    exact ⟨rfl, 0, rfl⟩
  have h1' : (l.length : Int) ≤ 60 := by omega
  have hlen : l.length ≤ 60 := by omega
  have echk : chkI l = if l.all okE = true then 0 else 1 := by unfold chkI; rw [if_neg h1]
  rw [echk]
  have hbad : (∃ i, i < l.length ∧ okE (l.getD i e0) = false) → (if l.all okE = true then (0 : Int) else 1) = 1 := fun ⟨i, hi, hb⟩ => by
    rw [if_neg]
    intro h
    rw [List.all_eq_true.1 h _ (getD_memE hi)] at hb
    cases hb
  have hgood : (∀ i, i < l.length → okE (l.getD i e0) = true) → (if l.all okE = true then (0 : Int) else 1) = 0 := fun h => by
    rw [if_pos]
    refine List.all_eq_true.2 fun g hg => ?_
    obtain ⟨i, hi, rfl⟩ := List.mem_iff_getElem.1 hg
    have := h i hi
    rwa [List.getD_eq_getElem?_getD, List.getElem?_eq_getElem hi] at this
  generalize (if l.all okE = true then (0 : Int) else 1) = E at hbad hgood ⊢
  have Hbad := Lib.hid hbad
  have Hgood := Lib.hid hgood
  clear h1 echk hbad hgood
  go_enter Tryd.func4, Tryd.ntmps4
  go_wp2
  go_loopw [3] (fun i wr => ∃ k q : Nat, i = .int .i64 k ∧ k ≤ l.length ∧ (∀ j, j < k → okE (l.getD j e0) = true) ∧ wr = w.drewN q) (fun i _ => l.length - (intOf i).toNat)
  case atStart => exact ⟨0, 0, rfl, Nat.zero_le _, fun j hj => by omega, rfl⟩
  case round =>
    obtain ⟨k, q, rfl, hk, hall, rfl⟩ := hrel
    have Hall := Lib.hid hall
    clear hall
    rcases Nat.lt_or_ge k l.length with hlt | hge
    · obtain ⟨b, off, rfl, hbl, hc⟩ := hx.open (by omega)
      obtain ⟨c0, c1⟩ := hc k hlt
      clear hc
      have hkI : (k : Int) < l.length := by omega
      have Hb : okE (l.getD k e0) = okE ⟨(l.getD k e0).t, (l.getD k e0).id, 0⟩ := rfl
      generalize hgw : (l.getD k e0).t = gw at c0 Hb
      generalize hgv : (l.getD k e0).id = gv at c1 Hb
      have HB := Lib.hid Hb
      clear Hb hgw hgv
      by_cases h1 : -1000000 ≤ gw ∧ gw ≤ 1000000
      · by_cases h2 : 0 ≤ gv ∧ gv ≤ 1000000
        · have hg : okE ⟨gw, gv, 0⟩ = true := (okE_iff _).2 ⟨h1, h2⟩
          have Hg := Lib.hid hg
          clear hg
          obtain ⟨p1, p2⟩ := h1
          obtain ⟨q1, q2⟩ := h2
          have H1 := Lib.hid (fun W => rin1_yes gw (-1000000) 1000000 p1 p2 W)
          have H2 := Lib.hid (fun W => rin1_yes gv 0 1000000 q1 q2 W)
          go_wp2_with fail
          refine (H1.out _).mono ?_
          rintro e w' ⟨rfl, rfl⟩
          go_wp2_with fail
          refine (H2.out _).mono ?_
          rintro e w' ⟨rfl, rfl⟩
          go_wp2
          go_roundw
          case rel =>
            refine ⟨k + 1, q, by go_num, by omega, fun j hj => ?_, rfl⟩
            rcases Nat.lt_or_ge j k with h | h
            · exact Hall.out j h
            · obtain rfl : j = k := by omega
              rw [HB.out]; exact Hg.out
          case measure => simp only [intOf]; omega
        · have hg : okE ⟨gw, gv, 0⟩ = false := by
            rw [Bool.eq_false_iff]; intro h; exact h2 ((okE_iff _).1 h).2
          have he := Hbad.out ⟨k, hlt, HB.out.trans hg⟩
          have He := Lib.hid he
          have hv : gv < 0 ∨ 1000000 < gv := by omega
          obtain ⟨p1, p2⟩ := h1
          have H1 := Lib.hid (fun W => rin1_yes gw (-1000000) 1000000 p1 p2 W)
          have H2 := Lib.hid (fun W => rin1_no gv 0 1000000 hv W)
          clear hg he h2 hv
          go_wp2_with fail
          refine (H1.out _).mono ?_
          rintro e w' ⟨rfl, rfl⟩
          go_wp2_with fail
          refine (H2.out _).mono ?_
          rintro e w' ⟨rfl, rfl⟩
          go_wp2
          go_ret
          exact ⟨by rw [He.out]; rfl, q, rfl⟩
      · have hg : okE ⟨gw, gv, 0⟩ = false := by
          rw [Bool.eq_false_iff]; intro h; exact h1 ((okE_iff _).1 h).1
        have he := Hbad.out ⟨k, hlt, HB.out.trans hg⟩
        have He := Lib.hid he
        have hv : gw < -1000000 ∨ 1000000 < gw := by omega
        have H1 := Lib.hid (fun W => rin1_no gw (-1000000) 1000000 hv W)
        clear hg he h1 hv
        go_wp2_with fail
        refine (H1.out _).mono ?_
        rintro e w' ⟨rfl, rfl⟩
        go_wp2
        go_ret
        exact ⟨by rw [He.out]; rfl, q, rfl⟩
    · obtain rfl : l.length = k := by omega
      have h3 : decide (l.length < l.length) = false := by simp
      have he := Hgood.out Hall.out
      have He := Lib.hid he
      clear he
      go_wp2
      go_ret
      exact ⟨by rw [He.out]; rfl, q, rfl⟩

end Go.Proofs.YtienepcknafddaaDoor
