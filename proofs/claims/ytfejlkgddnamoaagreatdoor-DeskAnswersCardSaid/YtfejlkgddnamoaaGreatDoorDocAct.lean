/- WALK: the document's act: a line of a session. -/
import Derived.Test.YtfejlkgddnamoaaGreatDoorDocOpens
import Derived.Test.YtfejlkgddnamoaaGreatDoorDeskErr
import Derived.Deep.RegionWith
set_option linter.unusedVariables false
set_option linter.unusedSimpArgs false
namespace Go.Proofs.YtfejlkgddnamoaaGreatDoor
open Go Go.RowKit SimPlain HeapPlain BookPlain NumPlain SpPlain LinesPlain

theorem rcalled_any (c : Int) (w : World) : Calls Tryz.prog 59 #[.int .i64 c] w fun e w' => e = .returned (.string ⟨(called c).toArray⟩) ∧ w' = w := by
  have H := Lib.hid (errno_any c w)
  go_enter Tryz.func59, Tryz.ntmps59
  go_wp2_with fail
  refine H.out.mono ?_
  rintro e w' ⟨rfl, rfl⟩
  go_wp2
  go_ret
  exact ⟨rfl, rfl⟩
theorem trim45 (s : List UInt8) : (Lib.trimPrefix s [45]).length = if s.getD 0 0 = 45 then s.length - 1 else s.length := by
  unfold Lib.trimPrefix Lib.hasPrefix
  cases s with
  | nil => rfl
  | cons c r =>
    have e : List.isPrefixOf [45] (c :: r) = (45 == c) := by simp [List.isPrefixOf]
    rw [e]
    by_cases h : c = 45
    · rw [h]; simp
    · have hb : ((45 : UInt8) == c) = false := by rw [beq_eq_false_iff_ne]; exact fun e => h e.symm
      rw [hb]
      simp [h]
def DShortRes (s : List UInt8) (w : World) (e : Ending) (w' : World) : Prop := ∃ n b q, e = .returned (.tuple #[.int .i64 n, .bool b]) ∧ (b = true → shortP s = some n) ∧ (b = false → shortP s = none) ∧ w' = w.drewN q
set_option maxRecDepth 100000 in
set_option maxHeartbeats 2000000 in
theorem rshort_any (s : List UInt8) (hs : s.length ≤ 2000000) (w : World) : Calls Tryz.prog 60 #[.string ⟨s.toArray⟩] w fun e w' => DShortRes s w e w' := by
  have HN := Lib.hid (rnumber_any s (by omega) w)
  have ht45 := trim45 s
  obtain ⟨Y, hY⟩ : ∃ Y : ByteArray, Y = ⟨s.toArray⟩ := ⟨_, rfl⟩
  have hYs : Y.size = s.length := by rw [hY]; exact mk_size _
  have HGet : Hid (∀ (h0 : 0 < Y.size), Y[0]'h0 = s.getD 0 0) := Lib.hid fun h0 => by
    subst hY
    rw [List.getD_eq_getElem?_getD, List.getElem?_eq_getElem (by omega)]
    rfl
  have hsz : Y.size ≤ 2000000 := by omega
  rw [← hY] at HN ⊢
  rw [← hYs] at ht45
  have HT := Lib.hid ht45
  clear hY hYs hs ht45
  go_enter Tryz.func60, Tryz.ntmps60
  go_wp2_with fail
  refine HN.out.mono ?_
  rintro e w1 ⟨n, b, rfl, ht, hf, rfl⟩
  cases b with
  | false =>
    have h0 := Lib.hid (hf rfl)
    clear ht hf
    go_wp2_with fail
    go_quiet (fail)
    go_wp2
    go_ret2
    exact ⟨_, _, _, rfl, (by intro c; cases c), fun _ => by unfold shortP; rw [h0.out], rfl⟩
  | true =>
    have h0 := Lib.hid (ht rfl)
    clear ht hf
    have hsh : Hid (shortP s = if (Lib.trimPrefix s [45]).length ≤ 7 then some n else none) := Lib.hid (by unfold shortP; rw [h0.out])
    rcases Nat.lt_or_ge 7 Y.size with h7 | h7
    · have h7I : decide ((Y.size : Int) ≤ 7) = false := decide_eq_false (by omega)
      by_cases h8 : Y.size = 8
      · have h8I : ((Y.size : Int) == 8) = true := by rw [beq_iff_eq]; omega
        have h0Y : 0 < Y.size := by omega
        have h0I : (0 : Int) < (Y.size : Int) := by omega
        by_cases h45 : s.getD 0 0 = 45
        · have hc : ((((Y[0]'h0Y).toNat : Nat) : Int) == 45) = true := by rw [HGet.out h0Y, h45]; rfl
          have hfin : Hid (shortP s = some n) := Lib.hid (by rw [hsh.out, HT.out, if_pos h45, if_pos (by omega)])
          clear h45 h8
          go_wp2_with fail
          go_quiet (fail)
          go_wp2
          go_ret2
          exact ⟨_, _, _, rfl, fun _ => hfin.out, (by intro c; cases c), rfl⟩
        · have hc : ((((Y[0]'h0Y).toNat : Nat) : Int) == 45) = false := by
            rw [HGet.out h0Y, beq_eq_false_iff_ne]
            intro e
            apply h45
            apply UInt8.toNat_inj.1
            have e32 : (45 : UInt8).toNat = 45 := rfl
            omega
          have hfin : Hid (shortP s = none) := Lib.hid (by rw [hsh.out, HT.out, if_neg h45, if_neg (by omega)])
          clear h45 h8
          go_wp2_with fail
          go_quiet (fail)
          go_wp2
          go_ret2
          exact ⟨_, _, _, rfl, (by intro c; cases c), fun _ => hfin.out, rfl⟩
      · have h8I : ((Y.size : Int) == 8) = false := by rw [beq_eq_false_iff_ne]; omega
        have hfin : Hid (shortP s = none) := Lib.hid (by
          rw [hsh.out, HT.out]
          by_cases h45 : s.getD 0 0 = 45
          · rw [if_pos h45, if_neg (by omega)]
          · rw [if_neg h45, if_neg (by omega)])
        clear h8
        go_wp2_with fail
        go_quiet (fail)
        go_wp2
        go_ret2
        exact ⟨_, _, _, rfl, (by intro c; cases c), fun _ => hfin.out, rfl⟩
    · have h7I : decide ((Y.size : Int) ≤ 7) = true := decide_eq_true (by omega)
      have h7J : (Y.size : Int) ≤ 7 := by omega
      have hfin : Hid (shortP s = some n) := Lib.hid (by
        rw [hsh.out, HT.out]
        by_cases h45 : s.getD 0 0 = 45
        · rw [if_pos h45, if_pos (by omega)]
        · rw [if_neg h45, if_pos (by omega)])
      clear h7I
      go_wp2_with fail
      go_quiet (fail)
      go_wp2
      go_ret2
      exact ⟨_, _, _, rfl, fun _ => hfin.out, (by intro c; cases c), rfl⟩
end Go.Proofs.YtfejlkgddnamoaaGreatDoor
