/- WALKS: the laws DeskBegins and DeskLines. -/
import Derived.Test.YtfejlkgddnamoaaGreatDoorDeskRun
set_option linter.unusedVariables false
set_option linter.unusedSimpArgs false
namespace Go.Proofs.YtfejlkgddnamoaaGreatDoor
open Go Go.RowKit SimPlain HeapPlain BookPlain NumPlain SpPlain LinesPlain

theorem itoa_zero : Lib.itoa ((0 : Nat) : Int) = [48] := by
  unfold Lib.itoa
  rw [if_neg (by decide), Lib.decDigits]
  simp
theorem run_many : runP [109, 97, 110, 121] = [48, 10] := by
  have h : actP st0 [109, 97, 110, 121] = (st0, Lib.itoa ((0 : Nat) : Int)) := rfl
  have e : linesOf [109, 97, 110, 121] = [[109, 97, 110, 121]] := rfl
  have t : Lib.trimSuffix [109, 97, 110, 121] [10] = [109, 97, 110, 121] := rfl
  unfold runP
  rw [if_neg (by decide), e]
  show (lineA st0 [109, 97, 110, 121]).2 ++ 10 :: [] = _
  unfold lineA
  rw [t, h, itoa_zero]; rfl
theorem run_three : runP [109, 97, 110, 121, 10, 10, 98] = [48, 10, 98, 97, 100, 10, 98, 97, 100, 10] := by
  have h : actP st0 [109, 97, 110, 121] = (st0, Lib.itoa ((0 : Nat) : Int)) := rfl
  have e : linesOf [109, 97, 110, 121, 10, 10, 98] = [[109, 97, 110, 121, 10], [10], [98]] := rfl
  have t : lineA st0 [109, 97, 110, 121, 10] = (st0, [48]) := by
    unfold lineA
    rw [show Lib.trimSuffix [109, 97, 110, 121, 10] [10] = [109, 97, 110, 121] from rfl, h, itoa_zero]
  have t2 : lineA st0 [10] = (st0, badB) := rfl
  have t3 : lineA st0 [98] = (st0, badB) := rfl
  unfold runP
  rw [if_neg (by decide), e]
  simp only [sessP, t, t2, t3]
  rfl
theorem Inv.run (s : List UInt8) (hs : s.length ≤ 3000) : (runP s).length ≤ 160000 := by
  unfold runP
  rw [if_neg (by omega)]
  have h := lines_many _ s (Nat.le_refl _)
  have := (sess_count (linesOf s) st0 0 Inv.zero (by omega)).2.1
  omega
set_option maxRecDepth 100000 in
set_option maxHeartbeats 1000000 in
theorem DeskBegins_walk (s : List UInt8) (k : Int) (w : World) (env : Env w) (hg : Handle w) (hbad : BadG w) (hs : s.length ≤ 9223372036854775807) (hk0 : -9223372036854775808 ≤ k) (hk1 : k ≤ 9223372036854775807) :
    Calls Tryz.prog 5 #[.string ⟨s.toArray⟩, .int .i64 k] w fun e w' => e = .returned (.bool true) ∧ Below w.heap.size w w' := by
  have HRun : Hid (∀ W (t : List UInt8), Below w.heap.size w W → t.length ≤ 9223372036854775807 → Calls Tryz.prog 16 #[.string ⟨t.toArray⟩] W fun e w' => e = .returned (.string ⟨(runP t).toArray⟩) ∧ Below W.heap.size W w') := Lib.hid fun W t b ht => Run_any t W (env.to b) (hg.to b) (hbad.to b) ht
  obtain ⟨Y, hY⟩ : ∃ Y : ByteArray, Y = ⟨s.toArray⟩ := ⟨_, rfl⟩
  have hYs : Y.size = s.length := by rw [hY]; exact mk_size _
  have HGet : Hid (∀ j (hj : j < Y.size), Y[j]'hj = s.getD j 0) := Lib.hid fun j hj => by
    subst hY
    rw [List.getD_eq_getElem?_getD, List.getElem?_eq_getElem (by omega)]
    rfl
  have hcut : ∀ j, (⟨(s.take j).toArray⟩ : ByteArray) = Y.extract 0 j := fun j => by
    apply ByteArray.ext; apply Array.toList_inj.1
    rw [Lib.extract_data, hY]; simp
  have HFact := Lib.hid (HRun.out w [109, 97, 110, 121] (Below.refl _ _) (by decide))
  rw [run_many] at HFact
  have HY := Lib.hid hY
  have HYs := Lib.hid hYs
  have HCut := Lib.hid hcut
  have Hs := Lib.hid hs
  have hYb : Y.size ≤ 9223372036854775807 := by omega
  rw [← hY]
  clear env hg hbad hs hY hYs hcut
  go_enter Tryz.func5, Tryz.ntmps5
  go_wp2_with fail
  refine HFact.out.mono ?_
  rintro e w1 ⟨rfl, hb1⟩
  have HB1 := Lib.hid hb1
  clear hb1
  rcases (by omega : (3000 : Int) < (Y.size : Int) ∨ (Y.size : Int) ≤ 3000 ∧ k < 0 ∨ (Y.size : Int) ≤ 3000 ∧ 0 ≤ k ∧ (Y.size : Int) < k ∨ (Y.size : Int) ≤ 3000 ∧ 0 ≤ k ∧ k ≤ (Y.size : Int)) with c | ⟨c1, c2⟩ | ⟨c1, c2, c3⟩ | ⟨c1, c2, c3⟩
  · go_wp2
    go_ret
    exact ⟨rfl, HB1.out⟩
  · go_wp2
    go_ret
    exact ⟨rfl, HB1.out⟩
  · go_wp2
    go_ret
    exact ⟨rfl, HB1.out⟩
  · obtain ⟨k, rfl⟩ : ∃ n : Nat, k = n := ⟨k.toNat, by omega⟩
    have hkY : k ≤ Y.size := by omega
    clear hk0 hk1
    go_wp2_with fail
    go_loopw [1] (fun kv wr => ∃ j : Nat, kv = .int .i64 j ∧ j ≤ Y.size ∧ wr = w1) (fun kv _ => (intOf kv).toNat)
    case atStart => exact ⟨k, rfl, hkY, rfl⟩
    case round =>
      obtain ⟨j, rfl, hj, rfl⟩ := hrel
      have fin : (j = 0 ∨ s.getD (j - 1) 0 = 10) → Hid (∃ X Z : ByteArray, (∀ W, Below w.heap.size w W → Calls Tryz.prog 16 #[.string (Y.extract 0 j)] W fun e w' => e = .returned (.string X) ∧ Below W.heap.size W w') ∧ (∀ W, Below w.heap.size w W → Calls Tryz.prog 16 #[.string Y] W fun e w' => e = .returned (.string Z) ∧ Below W.heap.size W w') ∧
          X.size ≤ Z.size ∧ Z.size ≤ 160000 ∧ ((Z.extract 0 X.size).toList == X.toList) = true) := fun h => Lib.hid (by
        have hys := HYs.out
        obtain ⟨r, hr⟩ := begins s j (by omega) h
        have e1 : runP (s.take j) = sessP st0 (linesOf (s.take j)) := by unfold runP; rw [if_neg (by rw [List.length_take]; omega)]
        have e2 : runP s = sessP st0 (linesOf s) := by unfold runP; rw [if_neg (by omega)]
        have hlen := Inv.run s (by omega)
        rw [e2] at hlen
        have hl2 : (sessP st0 (linesOf s)).length = (sessP st0 (linesOf (s.take j))).length + r.length := by rw [hr, List.length_append]
        refine ⟨⟨(runP (s.take j)).toArray⟩, ⟨(runP s).toArray⟩, fun W b => ?_, fun W b => ?_, ?_, ?_, ?_⟩
        · rw [← HCut.out]; exact HRun.out W _ b (by rw [List.length_take]; omega)
        · rw [HY.out]; exact HRun.out W _ b (by omega)
        · rw [mk_size, mk_size, e1, e2]; omega
        · rw [mk_size, e2]; omega
        · rw [beq_iff_eq, toList_dt, toList_dt, mk_size, Lib.extract_data]
          show ((runP s).take _).drop 0 = runP (s.take j)
          rw [e1, e2, hr]
          simp)
      have finish : ∀ (X Z : ByteArray), True := fun _ _ => trivial
      clear finish
      rcases Nat.eq_zero_or_pos j with h0 | h0
      · have hz1 : decide ((0 : Int) < (j : Int)) = false := decide_eq_false (by omega)
        have hz2 : decide (0 < j) = false := decide_eq_false (by omega)
        have hjY : (j : Int) ≤ (Y.size : Int) := by omega
        have hj0 : (0 : Int) ≤ (j : Int) := by omega
        obtain ⟨X, Z, hX, hZ, h1, h2, h3⟩ := (fin (.inl h0)).out
        clear h0
        have HX := Lib.hid hX
        have HZ := Lib.hid hZ
        have h1I : (X.size : Int) ≤ (Z.size : Int) := by omega
        have h2I : (Z.size : Int) ≤ 160000 := by omega
        clear fin hX hZ
        go_wp2_with fail
        refine (HX.out _ HB1.out).mono ?_
        rintro e w2 ⟨rfl, hb2⟩
        have HB2 : Hid (Below w.heap.size w w2) := Lib.hid (HB1.out.trans (hb2.mono HB1.out.size))
        clear hb2
        go_wp2_with fail
        refine (HZ.out _ HB2.out).mono ?_
        rintro e w3 ⟨rfl, hb3⟩
        have HB3 : Hid (Below w.heap.size w w3) := Lib.hid (HB2.out.trans (hb3.mono HB2.out.size))
        clear hb3
        go_wp2
        go_ret
        exact ⟨rfl, HB3.out⟩
      · obtain ⟨i, rfl⟩ : ∃ i, j = i + 1 := ⟨j - 1, by omega⟩
        have hi : i < Y.size := by omega
        have hiI : (0 : Int) ≤ (i : Int) := by omega
        have hiI2 : (i : Int) < (Y.size : Int) := by omega
        have hcast : (((i + 1 : Nat) : Int) - 1) = (i : Int) := by omega
        have hposI : (0 : Int) < ((i + 1 : Nat) : Int) := by omega
        by_cases h10 : s.getD i 0 = 10
        · have hc : ((((Y[i]'hi).toNat : Nat) : Int) == 10) = true := by rw [HGet.out i hi, h10]; rfl
          obtain ⟨X, Z, hX, hZ, h1, h2, h3⟩ := (fin (.inr h10)).out
          have HX := Lib.hid hX
          have HZ := Lib.hid hZ
          have h1I : (X.size : Int) ≤ (Z.size : Int) := by omega
          have h2I : (Z.size : Int) ≤ 160000 := by omega
          obtain ⟨j, hj'⟩ : ∃ j, j = i + 1 := ⟨_, rfl⟩
          have hjY : (j : Int) ≤ (Y.size : Int) := by omega
          have hj0 : (0 : Int) ≤ (j : Int) := by omega
          clear fin hX hZ h10
          go_wp2_with fail
          refine (HX.out _ HB1.out).mono ?_
          rintro e w2 ⟨rfl, hb2⟩
          have HB2 : Hid (Below w.heap.size w w2) := Lib.hid (HB1.out.trans (hb2.mono HB1.out.size))
          clear hb2
          go_wp2_with fail
          refine (HZ.out _ HB2.out).mono ?_
          rintro e w3 ⟨rfl, hb3⟩
          have HB3 : Hid (Below w.heap.size w w3) := Lib.hid (HB2.out.trans (hb3.mono HB2.out.size))
          clear hb3
          go_wp2
          go_ret
          exact ⟨rfl, HB3.out⟩
        · have hc : ((((Y[i]'hi).toNat : Nat) : Int) == 10) = false := by
            rw [HGet.out i hi, beq_eq_false_iff_ne]
            intro e
            apply h10
            apply UInt8.toNat_inj.1
            have e32 : (10 : UInt8).toNat = 10 := rfl
            omega
          clear fin h10
          go_wp2
          go_roundw
          case rel => exact ⟨i, by simp, by omega, trivial⟩
          case measure => simp only [intOf]; omega
theorem cntL_le (s : List UInt8) (i : Nat) : cntL s i ≤ i + 1 := by
  unfold cntL
  have h1 : (s.take i).count 10 ≤ (s.take i).length := List.count_le_length
  rw [List.length_take] at h1
  split <;> omega
set_option maxRecDepth 100000 in
set_option maxHeartbeats 4000000 in
theorem DeskLines_walk (s : List UInt8) (w : World) (env : Env w) (hg : Handle w) (hbad : BadG w) (hs : s.length ≤ 9223372036854775807) :
    Calls Tryz.prog 6 #[.string ⟨s.toArray⟩] w fun e w' => e = .returned (.bool true) ∧ Below w.heap.size w w' := by
  have HRun : Hid (∀ W (t : List UInt8), Below w.heap.size w W → t.length ≤ 9223372036854775807 → Calls Tryz.prog 16 #[.string ⟨t.toArray⟩] W fun e w' => e = .returned (.string ⟨(runP t).toArray⟩) ∧ Below W.heap.size W w') := Lib.hid fun W t b ht => Run_any t W (env.to b) (hg.to b) (hbad.to b) ht
  obtain ⟨Y, hY⟩ : ∃ Y : ByteArray, Y = ⟨s.toArray⟩ := ⟨_, rfl⟩
  have hYs : Y.size = s.length := by rw [hY]; exact mk_size _
  have HGet : Hid (∀ j (hj : j < Y.size), Y[j]'hj = s.getD j 0) := Lib.hid fun j hj => by
    subst hY
    rw [List.getD_eq_getElem?_getD, List.getElem?_eq_getElem (by omega)]
    rfl
  have HFact := Lib.hid (HRun.out w [109, 97, 110, 121, 10, 10, 98] (Below.refl _ _) (by decide))
  rw [run_three] at HFact
  obtain ⟨xs, hxs⟩ : ∃ xs, xs = runP s := ⟨_, rfl⟩
  have HMain : Hid (∀ W, Below w.heap.size w W → Calls Tryz.prog 16 #[.string Y] W fun e w' => e = .returned (.string ⟨xs.toArray⟩) ∧ Below W.heap.size W w') := Lib.hid fun W b => by
    rw [hY, hxs]; exact HRun.out W _ b hs
  have HXs := Lib.hid hxs
  have HYs := Lib.hid hYs
  have hYb : Y.size ≤ 9223372036854775807 := by omega
  obtain ⟨X, hX⟩ : ∃ X : ByteArray, X = ⟨xs.toArray⟩ := ⟨_, rfl⟩
  have hXs : X.size = xs.length := by rw [hX]; exact mk_size _
  have HXGet : Hid (∀ j (hj : j < X.size), X[j]'hj = xs.getD j 0) := Lib.hid fun j hj => by
    subst hX
    rw [List.getD_eq_getElem?_getD, List.getElem?_eq_getElem (by omega)]
    rfl
  rw [← hX] at HMain
  have HX := Lib.hid hX
  have HXl := Lib.hid hXs
  rw [← hY]
  clear env hg hbad hs hY hYs hxs hX hXs HRun
  go_enter Tryz.func6, Tryz.ntmps6
  go_wp2_with fail
  refine HFact.out.mono ?_
  rintro e w1 ⟨rfl, hb1⟩
  have HB1 := Lib.hid hb1
  clear hb1
  go_wp2_with fail
  refine (HMain.out _ HB1.out).mono ?_
  rintro e w2 ⟨rfl, hb2⟩
  have HB2 : Hid (Below w.heap.size w w2) := Lib.hid (HB1.out.trans (hb2.mono HB1.out.size))
  clear hb2
  by_cases hlong : 3000 < Y.size
  · have hlI : (3000 : Int) < (Y.size : Int) := by omega
    have hr : runP s = tooB := by unfold runP; rw [if_pos (by rw [← HYs.out]; exact hlong)]
    have hXe : X = ⟨tooB.toArray⟩ := by rw [HX.out, HXs.out, hr]
    subst hXe
    clear hlong hr
    go_wp2
    go_ret
    exact ⟨rfl, HB2.out⟩
  · have hlI : (Y.size : Int) ≤ 3000 := by omega
    have hl3 : s.length ≤ 3000 := by have := HYs.out; omega
    have hr : runP s = sessP st0 (linesOf s) := by unfold runP; rw [if_neg (by omega)]
    have hlm := lines_many _ s (Nat.le_refl _)
    obtain ⟨k1, k2, k3⟩ := sess_count (linesOf s) st0 0 Inv.zero (by omega)
    have hxe : xs = sessP st0 (linesOf s) := by rw [HXs.out, hr]
    rw [← hxe] at k1 k2 k3
    have HCount : Hid (xs.count 10 = cntL s s.length) := Lib.hid (by rw [k1, cntL_all])
    have HLast : Hid (xs = [] ∨ xs.getLast? = some 10) := Lib.hid (by
      by_cases h0 : linesOf s = []
      · left; rw [hxe, h0]; rfl
      · exact .inr (k3 h0))
    have hXb : X.size ≤ 160000 := by rw [HXl.out]; omega
    clear hlong hl3 hr hlm k1 k2 k3 hxe
    go_wp2_with fail
    go_loopw [5, 6] (fun nv iv wr => ∃ i : Nat, iv = .int .i64 i ∧ i ≤ Y.size ∧ nv = .int .i64 (cntL s i : Nat) ∧ wr = w2) (fun _ iv _ => Y.size - (intOf iv).toNat)
    case atStart => exact ⟨0, rfl, Nat.zero_le _, by
      have : cntL s 0 = 0 := by
        unfold cntL
        rw [if_neg]
        · simp
        · rintro ⟨c1, c2⟩
          exact c2 (.inl (List.eq_nil_of_length_eq_zero c1.symm))
      rw [this]; rfl, rfl⟩
    case round =>
      obtain ⟨i, rfl, hiY, rfl, rfl⟩ := hrel
      obtain ⟨n, hn⟩ : ∃ n, n = cntL s i := ⟨_, rfl⟩
      have hnb := cntL_le s i
      rw [← hn] at hnb ⊢
      have HN := Lib.hid hn
      rcases Nat.lt_or_ge i Y.size with hlt | hge
      · have hI : (i : Int) < (Y.size : Int) := by omega
        have hi0 : (0 : Int) ≤ (i : Int) := by omega
        have hst := cntL_step s i (by rw [← HYs.out]; exact hlt)
        by_cases h10 : s.getD i 0 = 10
        · have hc : ((((Y[i]'hlt).toNat : Nat) : Int) == 10) = true := by rw [HGet.out i hlt, h10]; rfl
          rw [if_pos (.inl h10), ← hn] at hst
          have HSt := Lib.hid hst
          clear hst h10 hn
          go_wp2
          go_roundw
          case rel => exact ⟨i + 1, by go_num, by omega, by rw [HSt.out]; go_num, trivial⟩
          case measure => simp only [intOf]; omega
        · have hc : ((((Y[i]'hlt).toNat : Nat) : Int) == 10) = false := by
            rw [HGet.out i hlt, beq_eq_false_iff_ne]
            intro e
            apply h10
            apply UInt8.toNat_inj.1
            have e32 : (10 : UInt8).toNat = 10 := rfl
            omega
          by_cases hl : i + 1 = Y.size
          · have hlb : ((i : Int) == (Y.size : Int) - 1) = true := by rw [beq_iff_eq]; omega
            rw [if_pos (.inr (by rw [← HYs.out]; exact hl)), ← hn] at hst
            have HSt := Lib.hid hst
            have HL := Lib.hid hl
            clear hst h10 hn hl
            go_wp2
            go_roundw
            case rel => exact ⟨i + 1, by go_num, by omega, by rw [HSt.out]; go_num, trivial⟩
            case measure => simp only [intOf]; omega
          · have hlb : ((i : Int) == (Y.size : Int) - 1) = false := by rw [beq_eq_false_iff_ne]; omega
            rw [if_neg (by rintro (c | c); exact h10 c; exact hl (by rw [HYs.out]; exact c)), ← hn] at hst
            have HSt := Lib.hid hst
            clear hst h10 hn hl
            go_wp2
            go_roundw
            case rel => exact ⟨i + 1, by go_num, by omega, by rw [HSt.out]; rfl, trivial⟩
            case measure => simp only [intOf]; omega
      · have hieq : i = Y.size := by omega
        have HA : Hid (xs.count 10 = n) := Lib.hid (by rw [HCount.out, HN.out, hieq, HYs.out])
        have hend1 : decide ((i : Int) < (Y.size : Int)) = false := decide_eq_false (by omega)
        have hend2 : decide (i < Y.size) = false := decide_eq_false (by omega)
        clear hieq hn
        go_wp2_with fail
        go_loopw [7, 8] (fun nv jv wz => ∃ j : Nat, jv = .int .i64 j ∧ j ≤ X.size ∧ nv = .int .i64 ((xs.take j).count 10 : Nat) ∧ wz = wr) (fun _ jv _ => X.size - (intOf jv).toNat)
        case atStart => exact ⟨0, rfl, Nat.zero_le _, rfl, rfl⟩
        case round =>
          obtain ⟨j, rfl, hjX, rfl, rfl⟩ := hrel
          obtain ⟨m, hm⟩ : ∃ m, m = (xs.take j).count 10 := ⟨_, rfl⟩
          have hmb : m ≤ j := by
            rw [hm]
            have h1 : (xs.take j).count 10 ≤ (xs.take j).length := List.count_le_length
            rw [List.length_take] at h1; omega
          rw [← hm]
          have HM := Lib.hid hm
          rcases Nat.lt_or_ge j X.size with hjl | hjg
          · have hJ : (j : Int) < (X.size : Int) := by omega
            have hj0 : (0 : Int) ≤ (j : Int) := by omega
            have hst := count_step xs j (by rw [← HXl.out]; exact hjl)
            by_cases h10 : xs.getD j 0 = 10
            · have hc : ((((X[j]'hjl).toNat : Nat) : Int) == 10) = true := by rw [HXGet.out j hjl, h10]; rfl
              rw [if_pos h10, ← hm] at hst
              have HSt := Lib.hid hst
              clear hst h10 hm
              go_wp2
              go_roundw
              case rel => exact ⟨j + 1, by go_num, by omega, by rw [HSt.out]; go_num, trivial⟩
              case measure => simp only [intOf]; omega
            · have hc : ((((X[j]'hjl).toNat : Nat) : Int) == 10) = false := by
                rw [HXGet.out j hjl, beq_eq_false_iff_ne]
                intro e
                apply h10
                apply UInt8.toNat_inj.1
                have e32 : (10 : UInt8).toNat = 10 := rfl
                omega
              rw [if_neg h10, ← hm] at hst
              have HSt := Lib.hid hst
              clear hst h10 hm
              go_wp2
              go_roundw
              case rel => exact ⟨j + 1, by go_num, by omega, by rw [HSt.out]; rfl, trivial⟩
              case measure => simp only [intOf]; omega
          · have hjeq : j = X.size := by omega
            have hmn : m = n := by rw [hm, hjeq, HXl.out, List.take_length]; exact HA.out
            have hend3 : decide ((j : Int) < (X.size : Int)) = false := decide_eq_false (by omega)
            have hend4 : decide (j < X.size) = false := decide_eq_false (by omega)
            subst hmn
            rcases Nat.eq_zero_or_pos X.size with h0 | h0
            · have h0b : ((X.size : Int) == 0) = true := by rw [beq_iff_eq]; omega
              clear hjeq hm h0
              go_wp2
              go_ret
              exact ⟨rfl, HB2.out⟩
            · have h0b : ((X.size : Int) == 0) = false := by rw [beq_eq_false_iff_ne]; omega
              obtain ⟨q, hq⟩ : ∃ q, X.size = q + 1 := ⟨X.size - 1, by omega⟩
              have hqX : q < X.size := by omega
              have hqI : (X.size : Int) - 1 = (q : Int) := by omega
              have hq0 : (0 : Int) ≤ (q : Int) := by omega
              have hq1 : (q : Int) < (X.size : Int) := by omega
              have hlast : xs.getD q 0 = 10 := by
                rcases HLast.out with h | h
                · have h2 := HXl.out; rw [h, List.length_nil] at h2; omega
                · rw [List.getLast?_eq_getElem?, ← HXl.out, hq, Nat.add_sub_cancel] at h
                  rw [List.getD_eq_getElem?_getD, h]; rfl
              have hc : ((((X[q]'hqX).toNat : Nat) : Int) == 10) = true := by rw [HXGet.out q hqX, hlast]; rfl
              clear hjeq hm h0 hq hlast
              go_wp2
              go_ret
              exact ⟨rfl, HB2.out⟩
end Go.Proofs.YtfejlkgddnamoaaGreatDoor
