/- WALK: the law ShareOne returns true. -/
import Derived.Test.YteidoknpnfbonaaWrapLong
import Derived.Test.YteidoknpnfbonaaShareOnePlain
namespace Go.Proofs.Yteidoknpnfbonaa
open Go Go.RowKit SharePlain PackPlain ShareLaw

set_option maxHeartbeats 2000000 in
theorem ShareOne_walk (times : List Int) (a : Option Addr) (cap : Nat) (w : World) (hx : Ints w a times) (hl : times.length ≤ 9223372036854775807) :
    Calls Try.prog 7 #[.slice a times.length cap] w fun e w' => e = .returned (.bool true) ∧ Below w.heap.size w w' := by
  by_cases hc : chk times (1 : Nat) = 0
  · have hf := chk_fine hc
    clear hc
    have hs := hf.short
    go_enter Try.func7, Try.ntmps7
    go_wp2_with fail
    refine (shareFact_any _).mono ?_
    rintro e w0 ⟨rfl, b0⟩
    go_wp2_with fail
    refine (List_yes times 1 a cap _ (hx.below b0) hf).mono ?_
    rintro e w1 ⟨g, rfl, hg, hrow, b1⟩
    have b01 := b0.trans (b1.mono b0.size)
    have hX := give_ok times 1 (Nat.le_refl _) (List.range times.length) (List.Perm.refl _)
    change OnOk times 1 (listL times 1) at hX
    have hG := one_law hX hf.nonneg
    have hxl := listL_length times 1
    have hL1 := Load_any times (listL times 1) 1 a (some ⟨g, 0, none⟩) cap (listL times 1).length w1 (hx.below b01) hrow.ints hf (by omega)
    generalize listL times 1 = x at hX hG hxl hL1 hrow ⊢
    rw [hxl] at hL1 ⊢
    clear hxl
    go_wp2_with fail
    refine hL1.mono ?_
    rintro e w2 ⟨n, er, rfl, hr, b2⟩
    have he := hr.good.2 hX
    subst he
    have hn := hr.long rfl
    rw [hG] at hn
    subst hn
    clear hr hX hG hL1
    have b02 := b01.trans (b2.mono b01.size)
    have hsum := hf.sum
    have hsm := small_of_nonneg times hf.nonneg (by omega)
    have hS := Sum_any times a cap w2 (hx.below b02) hsm (by omega)
    generalize times.sum = SS at hS hsum
    rw [errV_ok]
    go_wp2_with fail
    refine hS.mono ?_
    rintro e w3 ⟨rfl, rfl⟩
    have hss : (SS != SS) = false := by simp
    rcases Nat.lt_or_ge times.length 1 with h1 | h1
    · have h1' : ((times.length : Nat) : Int) < 1 := by omega
      go_wp2
      go_ret
      exact ⟨rfl, b02⟩
    rcases Nat.lt_or_ge 6 times.length with h6 | h6
    · have h6' : (6 : Int) < ((times.length : Nat) : Int) := by omega
      have h1' : (1 : Int) ≤ ((times.length : Nat) : Int) := by omega
      go_wp2
      go_ret
      exact ⟨rfl, b02⟩
    have h6' : ((times.length : Nat) : Int) ≤ 6 := by omega
    have h1' : (1 : Int) ≤ ((times.length : Nat) : Int) := by omega
    have hf2 : Fine times times.length := ⟨hs, by omega, by omega, hf.all⟩
    go_wp2_with fail
    refine (List_yes times times.length a cap _ (hx.below b02) hf2).mono ?_
    rintro e w4 ⟨g2, rfl, hg2, hrow2, b3⟩
    have b03 := b02.trans (b3.mono b02.size)
    have hX := give_ok times times.length h1 (List.range times.length) (List.Perm.refl _)
    have hG := own_law times (fun t ht => (hf.all t ht).1) h1
    change OnOk times times.length (listL times times.length) at hX
    change longOf times (listL times times.length) times.length = _ at hG
    have hxl := listL_length times times.length
    have hL1 := Load_any times (listL times times.length) times.length a (some ⟨g2, 0, none⟩) cap (listL times times.length).length w4 (hx.below b03) hrow2.ints hf2 (by omega)
    generalize listL times times.length = y at hX hG hxl hL1 hrow2 ⊢
    rw [hxl] at hL1 ⊢
    clear hxl
    go_wp2_with fail
    refine hL1.mono ?_
    rintro e w5 ⟨m, er, rfl, hr, b4⟩
    have he := hr.good.2 hX
    subst he
    have hm := hr.long rfl
    rw [hG] at hm
    clear hr hX hG hL1
    have Hm := Lib.hid hm
    clear hm
    have b04 := b03.trans (b4.mono b03.size)
    have hx5 := hx.below b04
    rw [errV_ok]
    go_wp2
    go_loop [12, 13] (fun mo i => ∃ k : Nat, k ≤ times.length ∧ i = .int .i64 k ∧ mo = .int .i64 ((times.take k).foldl max 0)) (fun _ i => times.length - (intOf i).toNat)
    case atStart => exact ⟨0, Nat.zero_le _, rfl, rfl⟩
    case round =>
      obtain ⟨k, hk, rfl, rfl⟩ := hrel
      rcases Nat.lt_or_ge k times.length with hlt | hge
      · obtain ⟨b, off, rfl, hcs⟩ := hx5.open (by omega)
        have hck := hcs k hlt
        have e2 := foldl_take times k hlt
        clear hcs
        generalize hv : times.getD k 0 = v at hck e2
        generalize hM : (times.take k).foldl max 0 = M0 at e2 ⊢
        have E2 := Lib.hid e2
        clear e2 hv hM
        rcases Int.lt_or_le M0 v with hlv | hlv
        · go_wp2
          go_round
          case rel => exact ⟨k + 1, by omega, by go_num, by rw [E2.out, Int.max_eq_right (by omega)]⟩
          case measure => simp only [intOf]; omega
        · go_wp2
          go_round
          case rel => exact ⟨k + 1, by omega, by go_num, by rw [E2.out, Int.max_eq_left hlv]⟩
          case measure => simp only [intOf]; omega
      · have hkn : k = times.length := by omega
        have e2 : (times.take k).foldl max 0 = m := by rw [hkn, List.take_length, Hm.out]
        rw [e2]
        have h3 : ((times.length : Nat) : Int) ≤ (k : Int) := by omega
        clear e2 hkn
        go_wp2
        go_ret
        exact ⟨rfl, b04⟩
  · have Hc := Lib.hid hc
    clear hc
    go_enter Try.func7, Try.ntmps7
    go_wp2_with fail
    refine (shareFact_any _).mono ?_
    rintro e w0 ⟨rfl, b0⟩
    go_wp2_with fail
    refine (List_no times (1 : Nat) a cap _ (hx.below b0) hl Hc.out).mono ?_
    rintro e w1 ⟨rfl, rfl⟩
    go_wp2
    go_ret
    exact ⟨rfl, b0⟩
end Go.Proofs.Yteidoknpnfbonaa
