/- WALK: slices.symMergeCmpFunc of items by key: one on the left. · WALK: slices.symMergeCmpFunc of items by key: one on the right. · PLAIN LAW: where a merge in place cuts (no program in sight). -/
import Derived.Test.YtienepcknafddaaDoorM2
section
set_option linter.unusedVariables false
set_option linter.unusedSimpArgs false
namespace Go.Proofs.YtienepcknafddaaDoor
open Go Go.RowKit SimPlain HeapPlain SymPlain

/-- what a merge leaves -/
def SymRes (A U V Q : List Ev) (g cap B : Nat) (w : World) (e : Ending) (w' : World) : Prop :=
  ∃ W, e = .returned (.tuple #[]) ∧ W.Perm (U ++ V) ∧ W.Pairwise Lt ∧ EtOwn w' B (some ⟨g, 0, none⟩) cap (A ++ (W ++ Q)) ∧ Only w w' (fun k => k = g)
set_option maxRecDepth 100000 in
set_option maxHeartbeats 4000000 in
theorem sym_left (A : List Ev) (u : Ev) (V Q : List Ev) (g cap B : Nat) (w : World) (N a m b : Nat) (hN : N = (A ++ ([u] ++ (V ++ Q))).length) (ha : a = A.length) (hm : m = a + 1) (hb : b = m + V.length) (hV : V.Pairwise Lt) (hUV : ∀ y ∈ V, Bef u y) (h100 : N ≤ 100)
    (hrow : EtOwn w B (some ⟨g, 0, none⟩) cap (A ++ ([u] ++ (V ++ Q)))) :
    Calls Tryd.prog 56 #[.slice (some ⟨g, 0, none⟩) N cap, .int .i64 a, .int .i64 m, .int .i64 b, fvK] w
      fun e w' => SymRes A [u] V Q g cap B w e w' := by
  have HN := Lib.hid hN
  have HA := Lib.hid ha
  have HB := Lib.hid hb
  have HV := Lib.hid hV
  have HUV := Lib.hid hUV
  have HRow := Lib.hid hrow
  have hbN : b ≤ N := by rw [hN, hb, hm, ha]; simp only [List.length_append, List.length_cons, List.length_nil]; omega
  have hmb : m ≤ b := by omega
  have hma : (m : Int) - (a : Int) = 1 := by omega
  have hgw := lt_of_block (hrow.block (by rw [← hN]; omega)).choose_spec
  have lenN : (A ++ u :: (V ++ Q)).length = N := by rw [hN]; rfl
  have HLN := Lib.hid lenN
  have Hm := Lib.hid hm
  have HZ := Lib.hid byKey_any
  clear hN ha hb hV hUV hrow hm lenN
  unfold fvK
  go_enter Tryd.func56, Tryd.ntmps56
  go_wp2
  go_loopw [10, 11] (fun iv jv wr => ∃ (i j : Nat) (V1 V2 V3 : List Ev), iv = .int .i64 i ∧ jv = .int .i64 j ∧ i = m + V1.length ∧ j = i + V2.length ∧ V1 ++ (V2 ++ V3) = V ∧ (∀ C y, V1 = C ++ [y] → y.t < u.t) ∧ (∀ y D, V3 = y :: D → u.t ≤ y.t) ∧
      EtOwn wr B (some ⟨g, 0, none⟩) cap (A ++ u :: (V ++ Q)) ∧ Only w wr (fun k => k = g))
    (fun iv jv _ => (intOf jv).toNat - (intOf iv).toNat)
  case atStart => exact ⟨m, b, [], V, [], rfl, rfl, rfl, HB.out, by simp, fun C y h => by simp at h, fun y D h => by simp at h, HRow.out, Only.refl _ _⟩
  case round =>
    obtain ⟨i, j, V1, V2, V3, rfl, rfl, hi, hj, hVV, hV1, hV3, hR, hO⟩ := hrel
    have hlen : V1.length + (V2.length + V3.length) = V.length := by rw [← hVV, List.length_append, List.length_append]
    have HI := Lib.hid hi
    have HJ := Lib.hid hj
    have HVV := Lib.hid hVV
    have HV1 := Lib.hid hV1
    have HV3 := Lib.hid hV3
    have HR := Lib.hid hR
    have HO := Lib.hid hO
    have HL := Lib.hid hlen
    have hjb : j ≤ b := by have := HB.out; omega
    have hmi : m ≤ i := by omega
    clear hVV hV1 hV3 hR hO hlen
    rcases Nat.eq_zero_or_pos V2.length with h2 | h2
    · obtain rfl : V2 = [] := List.eq_nil_of_length_eq_zero h2
      obtain rfl : j = i := by simpa using hj
      have hd : decide ((j : Int) < (j : Int)) = false := by simp
      have hV3l : V1.length + V3.length = V.length := by have := HL.out; simpa using this
      have hsub : (j : Int) - 1 = ((a + V1.length : Nat) : Int) := by have := Hm.out; omega
      clear h2 hi hj
      have hW : (V1 ++ u :: V3).Perm ([u] ++ V) ∧ (V1 ++ u :: V3).Pairwise Lt := by
        have hVp := HV.out
        have e : V = V1 ++ V3 := by rw [← HVV.out]; simp
        rw [e] at hVp ⊢
        refine one_left hVp (fun x hx => ?_) (fun y hy => ?_)
        · have h1 := cross (R := Lt) lt_trans (U1 := V1) (U2 := V3) (V1 := []) (V2 := [u]) hVp (by simp) (fun C x' y' D hC hD => by
            have hy' : y' = u := by simp at hD; exact hD.1.symm
            rw [hy']; exact lt_of_less (HV1.out C x' hC))
          exact h1 x hx u (by simp)
        · have h1 := cross (R := Lt) lt_trans (U1 := [u]) (U2 := []) (V1 := V1) (V2 := V3) (by simp) hVp (fun C x' y' D hC hD => by
            have hx' : u = x' := by
              have := congrArg List.getLast? hC
              simpa using this
            rw [← hx']; exact lt_of_not (Int.not_lt.2 (HV3.out y' D hD)) (HUV.out y' (by rw [e, hD]; simp)))
          exact h1 u (by simp) y hy
      have hRow2 : EtOwn wr B (some ⟨g, 0, none⟩) cap (A ++ ([] ++ u :: (V1 ++ (V3 ++ Q)))) := by
        have := HR.out
        rw [← HVV.out] at this
        simpa using this
      have HW := Lib.hid hW
      have HRow2 := Lib.hid hRow2
      have HV3l := Lib.hid hV3l
      clear hW hRow2 hV3l
      (try clear hi)
      (try clear hj)
      go_wp2
      go_loopw [13] (fun kv wk => ∃ (k : Nat) (C D : List Ev), kv = .int .i64 k ∧ k = a + C.length ∧ C ++ D = V1 ∧ EtOwn wk B (some ⟨g, 0, none⟩) cap (A ++ (C ++ u :: (D ++ (V3 ++ Q)))) ∧ Only w wk (fun k => k = g))
        (fun kv _ => a + V1.length - (intOf kv).toNat)
      case atStart => exact ⟨a, [], V1, rfl, rfl, rfl, HRow2.out, HO.out⟩
      case round =>
        obtain ⟨k, C, D, rfl, hk, hCD, hR3, hO3⟩ := hrel
        have hCl : C.length + D.length = V1.length := by rw [← hCD, List.length_append]
        have HCD := Lib.hid hCD
        have HO3 := Lib.hid hO3
        have HK := Lib.hid hk
        clear hCD hO3
        cases D with
        | nil =>
          obtain ⟨q, hq⟩ : ∃ q, q = a + V1.length := ⟨_, rfl⟩
          have hkq : k = q := by simp at hCl; omega
          subst hkq
          rw [← hq] at hsub
          have hdd : decide (k < k) = false := by simp
          have HR3 := Lib.hid hR3
          clear hR3 hCl hk hq
          go_wp2
          (try simp only [Exit.inBlock, Exit.then])
          refine bodyPost_ret (results_none rfl _ _ _) rfl ?_
          refine ⟨V1 ++ u :: V3, rfl, HW.out.1, HW.out.2, ?_, HO3.out⟩
          have e : A ++ ((V1 ++ u :: V3) ++ Q) = A ++ (C ++ u :: ([] ++ (V3 ++ Q))) := by
            rw [← HCD.out]; simp
          rw [e]; exact HR3.out
        | cons y D' =>
          have p1 : k = (A ++ C).length := by rw [List.length_append, ← HA.out]; exact hk
          have eL : A ++ (C ++ u :: (y :: D' ++ (V3 ++ Q))) = (A ++ C) ++ u :: ([] ++ y :: (D' ++ (V3 ++ Q))) := by simp
          rw [eL] at hR3
          have lenL : ((A ++ C) ++ u :: ([] ++ y :: (D' ++ (V3 ++ Q)))).length = N := by
            have h1 := HLN.out
            have h2 := HV3l.out
            rw [← HVV.out, ← HCD.out] at h1
            rw [← h1]
            simp only [List.length_append, List.length_cons, List.length_nil]
            omega
          have gu : ((A ++ C) ++ u :: ([] ++ y :: (D' ++ (V3 ++ Q)))).getD k e0 = u := getD_mid e0 _ u _ p1
          have gy : ((A ++ C) ++ u :: ([] ++ y :: (D' ++ (V3 ++ Q)))).getD (k + 1) e0 = y := by
            have := getD_mid e0 ((A ++ C) ++ [u]) y (D' ++ (V3 ++ Q)) (i := k + 1) (by rw [p1]; simp only [List.length_append, List.length_cons, List.length_nil])
            simpa using this
          have hkN : k + 1 < N := by rw [← lenL, p1]; simp only [List.length_append, List.length_cons, List.length_nil]; omega
          obtain ⟨x0, x1⟩ := hR3.cells k (by rw [lenL]; omega) gu
          obtain ⟨y0, y1⟩ := hR3.cells (k + 1) (by rw [lenL]; omega) gy
          have f0 := hR3.free (by rw [lenL]; omega) (k * 2)
          have f1 := hR3.free (by rw [lenL]; omega) (k * 2 + 1)
          have f2 := hR3.free (by rw [lenL]; omega) ((k + 1) * 2)
          have f3 := hR3.free (by rw [lenL]; omega) ((k + 1) * 2 + 1)
          have hS := hR3.swap k (k + 1) (by rw [lenL]; omega) (by rw [lenL]; omega) gu gy
          rw [swapL_mid e0 _ u [] y _ p1 (by rw [p1]; rfl)] at hS
          have HS4 := Lib.hid hS
          have hkq : k < a + V1.length := by simp at hCl; omega
          have hkqI : (k : Int) < ((a + V1.length : Nat) : Int) := by omega
          generalize hq : a + V1.length = q at *
          have Hq := Lib.hid hq
          clear hq hS hR3 eL lenL gu gy p1 hCl hk
          have ne00a : ¬ (k + 1) * 2 = k * 2 := by omega
          have ne00b : ¬ k * 2 = (k + 1) * 2 := by omega
          have ne01a : ¬ (k + 1) * 2 = k * 2 + 1 := by omega
          have ne01b : ¬ k * 2 + 1 = (k + 1) * 2 := by omega
          have ne10a : ¬ (k + 1) * 2 + 1 = k * 2 := by omega
          have ne10b : ¬ k * 2 = (k + 1) * 2 + 1 := by omega
          have ne11a : ¬ (k + 1) * 2 + 1 = k * 2 + 1 := by omega
          have ne11b : ¬ k * 2 + 1 = (k + 1) * 2 + 1 := by omega
          have z1 : (0 : Int) ≤ (k : Int) + 1 := by omega
          have z2 : ((k : Int) + 1).toNat = k + 1 := by omega
          have z4 : (k : Int) + 1 < (N : Int) := by omega
          have z5 : (k : Int) < (N : Int) := by omega
          go_wp2
          go_region
          all_goals
            go_wp2
            go_roundw
            case rel =>
              refine ⟨k + 1, C ++ [y], D', by go_num, by have := HK.out; rw [List.length_append]; simp; omega, by rw [← HCD.out]; simp, ?_, ?_⟩
              · have e : A ++ ((C ++ [y]) ++ u :: (D' ++ (V3 ++ Q))) = (A ++ C) ++ y :: ([] ++ u :: (D' ++ (V3 ++ Q))) := by simp
                rw [e]
                exact HS4.out.drewN 1
              · exact (HO3.out.trans (Only.swapT _ g k (k + 1) u y) (fun _ _ c => c)).drewN 1
            case measure => simp only [intOf]; omega
    · obtain ⟨h, hh⟩ : ∃ h, h = (i + j) / 2 := ⟨_, rfl⟩
      have hltI : (i : Int) < (j : Int) := by omega
      have hhI : ((i : Int) + (j : Int)) / 2 = (h : Int) := by omega
      obtain ⟨V2a, V2c, hV2, hV2a⟩ := cut_at V2 (h - i) (by omega)
      obtain ⟨y, V2b, hV2c⟩ : ∃ y V2b, V2c = y :: V2b := by
        cases V2c with
        | nil => have := congrArg List.length hV2; simp at this; omega
        | cons y V2b => exact ⟨y, V2b, rfl⟩
      subst hV2c
      subst hV2
      have hih : i ≤ h := by omega
      have hhj : h < j := by omega
      have hlen2 : V2a.length + (V2b.length + 1) = j - i := by have := hj; simp at this; omega
      have eL : A ++ u :: (V ++ Q) = (A ++ u :: (V1 ++ V2a)) ++ y :: (V2b ++ (V3 ++ Q)) := by rw [← HVV.out]; simp
      have gy : (A ++ u :: (V ++ Q)).getD h e0 = y := by
        rw [eL]
        refine getD_mid e0 _ y _ ?_
        simp only [List.length_append, List.length_cons]
        have := HA.out; have := Hm.out; omega
      have gu : (A ++ u :: (V ++ Q)).getD a e0 = u := getD_mid e0 _ u _ HA.out
      obtain ⟨y0, y1⟩ := HR.out.cells h (by rw [HLN.out]; omega) gy
      obtain ⟨x0, x1⟩ := HR.out.cells a (by rw [HLN.out]; omega) gu
      obtain ⟨z, hz⟩ : ∃ z, z = cmpZ y.t u.t := ⟨_, rfl⟩
      have hCz := HZ.out y u
      unfold itV at hCz
      rw [← hz] at hCz
      have HCz := Lib.hid hCz
      have iN : (h : Int) < (N : Int) := by omega
      have aN : (a : Int) < (N : Int) := by omega
      have HH := Lib.hid hh
      have HI2 := Lib.hid hih
      have HJ2 := Lib.hid hhj
      have HL2 := Lib.hid hlen2
      have HV2a := Lib.hid hV2a
      clear hi hj hh eL gy gu hCz h2 hih hhj hlen2 hV2a
      by_cases hxy : y.t < u.t
      · rw [cmpZ_less hxy] at hz
        have hz0 : z < 0 := by omega
        have HXY := Lib.hid hxy
        clear hz hxy
        go_upto_region 5 with fail
        go_still_tail 9, (by kernel_rfl)
        change wpList _ _ _ _ _ wr.drew
        go_wp2_with fail
        refine (HCz.out _).mono ?_
        rintro e w4 ⟨rfl, o4⟩
        have HR4 := Lib.hid (HR.out.same (w' := w4) fun q hq => o4.block q (HR.out.lt q hq).2 (fun c => c))
        have HO4 := Lib.hid ((HO.out.drewN 1).trans o4 (fun _ _ c => c.elim))
        clear o4
        go_wp2
        go_roundw
        case rel =>
          refine ⟨h + 1, j, V1 ++ (V2a ++ [y]), V2b, V3, by go_num, rfl, ?_, ?_, by rw [← HVV.out]; simp, fun C y' hC => ?_, HV3.out, HR4.out, HO4.out⟩
          · have := HI.out; have := HV2a.out; have := HI2.out
            simp only [List.length_append, List.length_cons, List.length_nil]; omega
          · have := HL2.out; have := HV2a.out; have := HI2.out; have := HJ2.out; omega
          · have hl := congrArg List.getLast? hC
            have e1 : V1 ++ (V2a ++ [y]) = (V1 ++ V2a) ++ [y] := by simp
            rw [e1] at hl
            simp only [List.getLast?_concat, Option.some.injEq] at hl
            rw [← hl]; exact HXY.out
        case measure => simp only [intOf]; have := HI2.out; have := HJ2.out; omega
      · have hz0 : 0 ≤ z := by rw [hz]; exact cmpZ_not hxy
        have HXY := Lib.hid (Int.not_lt.1 hxy)
        clear hz hxy
        go_upto_region 5 with fail
        go_still_tail 9, (by kernel_rfl)
        change wpList _ _ _ _ _ wr.drew
        go_wp2_with fail
        refine (HCz.out _).mono ?_
        rintro e w4 ⟨rfl, o4⟩
        have HR4 := Lib.hid (HR.out.same (w' := w4) fun q hq => o4.block q (HR.out.lt q hq).2 (fun c => c))
        have HO4 := Lib.hid ((HO.out.drewN 1).trans o4 (fun _ _ c => c.elim))
        clear o4
        go_wp2
        go_roundw
        case rel =>
          refine ⟨i, h, V1, V2a, y :: (V2b ++ V3), rfl, rfl, HI.out, ?_, by rw [← HVV.out]; simp, HV1.out, fun y' D hD => ?_, HR4.out, HO4.out⟩
          · have := HV2a.out; have := HI2.out; omega
          · simp only [List.cons.injEq] at hD
            rw [← hD.1]; exact HXY.out
        case measure => simp only [intOf]; have := HI2.out; have := HJ2.out; omega
end Go.Proofs.YtienepcknafddaaDoor
end

section
set_option linter.unusedVariables false
set_option linter.unusedSimpArgs false
namespace Go.Proofs.YtienepcknafddaaDoor
open Go Go.RowKit SimPlain HeapPlain SymPlain

set_option maxRecDepth 100000 in
set_option maxHeartbeats 4000000 in
theorem sym_right (A U : List Ev) (v : Ev) (Q : List Ev) (g cap B : Nat) (w : World) (N a m b : Nat) (hN : N = (A ++ (U ++ ([v] ++ Q))).length) (ha : a = A.length) (hm : m = a + U.length) (hb : b = m + 1) (hU2 : 2 ≤ U.length) (hU : U.Pairwise Lt) (hUV : ∀ y ∈ U, Bef y v) (h100 : N ≤ 100)
    (hrow : EtOwn w B (some ⟨g, 0, none⟩) cap (A ++ (U ++ ([v] ++ Q)))) :
    Calls Tryd.prog 56 #[.slice (some ⟨g, 0, none⟩) N cap, .int .i64 a, .int .i64 m, .int .i64 b, fvK] w
      fun e w' => SymRes A U [v] Q g cap B w e w' := by
  have HN := Lib.hid hN
  have HA := Lib.hid ha
  have Hm := Lib.hid hm
  have HU := Lib.hid hU
  have HUV := Lib.hid hUV
  have hbN : b ≤ N := by rw [hN, hb, hm, ha]; simp only [List.length_append, List.length_cons, List.length_nil]; omega
  have ham : a + 2 ≤ m := by omega
  have hma : ((m : Int) - (a : Int) == 1) = false := by rw [beq_eq_false_iff_ne]; omega
  have hbm : (b : Int) - (m : Int) = 1 := by omega
  have hmN : m < N := by omega
  have lenN : (A ++ (U ++ v :: Q)).length = N := by rw [hN]; rfl
  have HLN := Lib.hid lenN
  have HRow : Hid (EtOwn w B (some ⟨g, 0, none⟩) cap (A ++ (U ++ v :: Q))) := Lib.hid (by have := hrow; simpa using this)
  have hgw := lt_of_block (hrow.block (by rw [← hN]; omega)).choose_spec
  have HZ := Lib.hid byKey_any
  clear hN ha hm hU hUV hrow lenN hU2 hb
  unfold fvK
  go_enter Tryd.func56, Tryd.ntmps56
  go_wp2
  go_loopw [14, 15] (fun iv jv wr => ∃ (i j : Nat) (U1 U2 U3 : List Ev), iv = .int .i64 i ∧ jv = .int .i64 j ∧ i = a + U1.length ∧ j = i + U2.length ∧ U1 ++ (U2 ++ U3) = U ∧ (∀ C y, U1 = C ++ [y] → y.t ≤ v.t) ∧ (∀ y D, U3 = y :: D → v.t < y.t) ∧
      EtOwn wr B (some ⟨g, 0, none⟩) cap (A ++ (U ++ v :: Q)) ∧ Only w wr (fun k => k = g))
    (fun iv jv _ => (intOf jv).toNat - (intOf iv).toNat)
  case atStart => exact ⟨a, m, [], U, [], rfl, rfl, rfl, Hm.out, by simp, fun C y h => by simp at h, fun y D h => by simp at h, HRow.out, Only.refl _ _⟩
  case round =>
    obtain ⟨i, j, U1, U2, U3, rfl, rfl, hi, hj, hUU, hU1, hU3, hR, hO⟩ := hrel
    have hlen : U1.length + (U2.length + U3.length) = U.length := by rw [← hUU, List.length_append, List.length_append]
    have HI := Lib.hid hi
    have HJ := Lib.hid hj
    have HUU := Lib.hid hUU
    have HU1 := Lib.hid hU1
    have HU3 := Lib.hid hU3
    have HR := Lib.hid hR
    have HO := Lib.hid hO
    have HL := Lib.hid hlen
    have hjm : j ≤ m := by have := Hm.out; omega
    have hai : a ≤ i := by omega
    clear hUU hU1 hU3 hR hO hlen
    rcases Nat.eq_zero_or_pos U2.length with h2 | h2
    · obtain rfl : U2 = [] := List.eq_nil_of_length_eq_zero h2
      obtain rfl : j = i := by simpa using hj
      have hd : decide ((j : Int) < (j : Int)) = false := by simp
      have hU3l : j + U3.length = m := by have h1 := HL.out; have h2 := Hm.out; have h3 := HI.out; simp only [List.length_nil] at h1; omega
      have hW : (U1 ++ v :: U3).Perm (U ++ [v]) ∧ (U1 ++ v :: U3).Pairwise Lt := by
        have hUp := HU.out
        have e : U = U1 ++ U3 := by rw [← HUU.out]; simp
        rw [e] at hUp ⊢
        refine one_right hUp (fun x hx => ?_) (fun y hy => ?_)
        · have h1 := cross (R := Lt) lt_trans (U1 := U1) (U2 := U3) (V1 := []) (V2 := [v]) hUp (by simp) (fun C x' y' D hC hD => by
            have hy' : y' = v := by simp at hD; exact hD.1.symm
            rw [hy']; exact lt_of_not (Int.not_lt.2 (HU1.out C x' hC)) (HUV.out x' (by rw [e, hC]; simp)))
          exact h1 x hx v (by simp)
        · have h1 := cross (R := Lt) lt_trans (U1 := [v]) (U2 := []) (V1 := U1) (V2 := U3) (by simp) hUp (fun C x' y' D hC hD => by
            have hx' : v = x' := by
              have := congrArg List.getLast? hC
              simpa using this
            rw [← hx']; exact lt_of_less (HU3.out y' D hD))
          exact h1 v (by simp) y hy
      have hRow2 : EtOwn wr B (some ⟨g, 0, none⟩) cap (A ++ (U1 ++ (U3 ++ v :: ([] ++ Q)))) := by
        have := HR.out
        rw [← HUU.out] at this
        simpa using this
      have HW := Lib.hid hW
      have HRow2 := Lib.hid hRow2
      have HU3l := Lib.hid hU3l
      clear hW hRow2 hU3l
      (try clear hi)
      (try clear hj)
      go_wp2
      go_loopw [17] (fun kv wk => ∃ (k : Nat) (C D : List Ev), kv = .int .i64 k ∧ k = j + C.length ∧ C ++ D = U3 ∧ EtOwn wk B (some ⟨g, 0, none⟩) cap (A ++ (U1 ++ (C ++ v :: (D ++ Q)))) ∧ Only w wk (fun k => k = g))
        (fun kv _ => (intOf kv).toNat)
      case atStart => exact ⟨m, U3, [], rfl, HU3l.out.symm, by simp, HRow2.out, HO.out⟩
      case round =>
        obtain ⟨k, C, D, rfl, hk, hCD, hR3, hO3⟩ := hrel
        have hCl : C.length + D.length = U3.length := by rw [← hCD, List.length_append]
        have HCD := Lib.hid hCD
        have HO3 := Lib.hid hO3
        have HK := Lib.hid hk
        clear hCD hO3
        by_cases hC0 : C = []
        · subst hC0
          obtain rfl : k = j := by simpa using hk
          have hdd : decide ((k : Int) < (k : Int)) = false := by simp
          have HR3 := Lib.hid hR3
          clear hR3 hCl
          (try clear hk)
          go_wp2
          (try simp only [Exit.inBlock, Exit.then])
          refine bodyPost_ret (results_none rfl _ _ _) rfl ?_
          refine ⟨U1 ++ v :: U3, rfl, HW.out.1, HW.out.2, ?_, HO3.out⟩
          have e : A ++ ((U1 ++ v :: U3) ++ Q) = A ++ (U1 ++ ([] ++ v :: (D ++ Q))) := by
            rw [← HCD.out]; simp
          rw [e]; exact HR3.out
        · obtain ⟨C', y, rfl⟩ := split_last C hC0
          obtain ⟨p, hp⟩ : ∃ p, k = p + 1 := ⟨k - 1, by rw [hk]; simp; omega⟩
          subst hp
          have p1 : p = (A ++ (U1 ++ C')).length := by
            have h1 := HA.out; have h2 := HI.out
            simp only [List.length_append, List.length_cons, List.length_nil] at hk ⊢
            omega
          have eL : A ++ (U1 ++ ((C' ++ [y]) ++ v :: (D ++ Q))) = (A ++ (U1 ++ C')) ++ y :: v :: (D ++ Q) := by simp
          rw [eL] at hR3
          have lenL : ((A ++ (U1 ++ C')) ++ y :: v :: (D ++ Q)).length = N := by
            have h1 := HLN.out
            have h2 := HUU.out
            rw [← h2, ← HCD.out] at h1
            rw [← h1]
            simp only [List.length_append, List.length_cons, List.length_nil]
            omega
          have gy : ((A ++ (U1 ++ C')) ++ y :: v :: (D ++ Q)).getD p e0 = y := getD_mid e0 _ y _ p1
          have gv : ((A ++ (U1 ++ C')) ++ y :: v :: (D ++ Q)).getD (p + 1) e0 = v := by
            have := getD_mid e0 ((A ++ (U1 ++ C')) ++ [y]) v (D ++ Q) (i := p + 1) (by rw [p1]; simp only [List.length_append, List.length_cons, List.length_nil])
            simpa using this
          have hkN : p + 1 < N := by rw [← lenL, p1]; simp only [List.length_append, List.length_cons, List.length_nil]; omega
          obtain ⟨x0, x1⟩ := hR3.cells p (by rw [lenL]; omega) gy
          obtain ⟨y0, y1⟩ := hR3.cells (p + 1) (by rw [lenL]; omega) gv
          have f0 := hR3.free (by rw [lenL]; omega) (p * 2)
          have f1 := hR3.free (by rw [lenL]; omega) (p * 2 + 1)
          have f2 := hR3.free (by rw [lenL]; omega) ((p + 1) * 2)
          have f3 := hR3.free (by rw [lenL]; omega) ((p + 1) * 2 + 1)
          have hS := hR3.swap (p + 1) p (by rw [lenL]; omega) (by rw [lenL]; omega) gv gy
          rw [swapL_down e0 _ y v _ p1 (by rw [p1])] at hS
          have HS4 := Lib.hid hS
          have hjk : (j : Int) < (p : Int) + 1 := by
            simp only [List.length_append, List.length_cons, List.length_nil] at hk
            omega
          clear hS hR3 eL lenL gy gv p1 hCl hk hC0
          have ne00a : ¬ (p + 1) * 2 = p * 2 := by omega
          have ne00b : ¬ p * 2 = (p + 1) * 2 := by omega
          have ne01a : ¬ (p + 1) * 2 = p * 2 + 1 := by omega
          have ne01b : ¬ p * 2 + 1 = (p + 1) * 2 := by omega
          have ne10a : ¬ (p + 1) * 2 + 1 = p * 2 := by omega
          have ne10b : ¬ p * 2 = (p + 1) * 2 + 1 := by omega
          have ne11a : ¬ (p + 1) * 2 + 1 = p * 2 + 1 := by omega
          have ne11b : ¬ p * 2 + 1 = (p + 1) * 2 + 1 := by omega
          have z1 : (0 : Int) ≤ (p : Int) + 1 := by omega
          have z2 : ((p : Int) + 1).toNat = p + 1 := by omega
          have z3 : (p : Int) + 1 - 1 = (p : Int) := by omega
          have z4 : (p : Int) + 1 < (N : Int) := by omega
          have z5 : (p : Int) < (N : Int) := by omega
          have wk : IntKind.i64.wrap (p : Int) = (p : Int) := wrap_small (by omega)
          go_wp2
          go_region
          all_goals
            go_wp2
            go_roundw
            case rel =>
              refine ⟨p, C', y :: D, by go_num, by have := HK.out; simp only [List.length_append, List.length_cons, List.length_nil] at this; omega, by rw [← HCD.out]; simp, ?_, ?_⟩
              · have e : A ++ (U1 ++ (C' ++ v :: (y :: D ++ Q))) = (A ++ (U1 ++ C')) ++ v :: y :: (D ++ Q) := by simp
                rw [e]
                exact HS4.out.drewN 1
              · exact (HO3.out.trans (Only.swapT _ g (p + 1) p v y) (fun _ _ c => c)).drewN 1
            case measure => simp only [intOf]; omega
    · obtain ⟨h, hh⟩ : ∃ h, h = (i + j) / 2 := ⟨_, rfl⟩
      have hltI : (i : Int) < (j : Int) := by omega
      have hhI : ((i : Int) + (j : Int)) / 2 = (h : Int) := by omega
      obtain ⟨U2a, U2c, hU2, hU2a⟩ := cut_at U2 (h - i) (by omega)
      obtain ⟨y, U2b, hU2c⟩ : ∃ y U2b, U2c = y :: U2b := by
        cases U2c with
        | nil => have := congrArg List.length hU2; simp at this; omega
        | cons y U2b => exact ⟨y, U2b, rfl⟩
      subst hU2c
      subst hU2
      have hih : i ≤ h := by omega
      have hhj : h < j := by omega
      have hlen2 : U2a.length + (U2b.length + 1) = j - i := by have := hj; simp at this; omega
      have eL : A ++ (U ++ v :: Q) = (A ++ (U1 ++ U2a)) ++ y :: (U2b ++ (U3 ++ v :: Q)) := by rw [← HUU.out]; simp
      have gy : (A ++ (U ++ v :: Q)).getD h e0 = y := by
        rw [eL]
        refine getD_mid e0 _ y _ ?_
        simp only [List.length_append, List.length_cons]
        have := HA.out; omega
      have gv : (A ++ (U ++ v :: Q)).getD m e0 = v := by
        have := getD_mid e0 (A ++ U) v Q (i := m) (by rw [List.length_append, ← HA.out]; exact Hm.out)
        simpa using this
      obtain ⟨y0, y1⟩ := HR.out.cells h (by rw [HLN.out]; omega) gy
      obtain ⟨x0, x1⟩ := HR.out.cells m (by rw [HLN.out]; omega) gv
      obtain ⟨z, hz⟩ : ∃ z, z = cmpZ v.t y.t := ⟨_, rfl⟩
      have hCz := HZ.out v y
      unfold itV at hCz
      rw [← hz] at hCz
      have HCz := Lib.hid hCz
      have iN : (h : Int) < (N : Int) := by omega
      have mN : (m : Int) < (N : Int) := by omega
      have HH := Lib.hid hh
      have HI2 := Lib.hid hih
      have HJ2 := Lib.hid hhj
      have HL2 := Lib.hid hlen2
      have HU2a := Lib.hid hU2a
      clear hi hj hh eL gy gv hCz h2 hih hhj hlen2 hU2a
      by_cases hxy : v.t < y.t
      · rw [cmpZ_less hxy] at hz
        have hz0 : z < 0 := by omega
        have HXY := Lib.hid hxy
        clear hz hxy
        go_upto_region 17 with fail
        go_still_tail 9, (by kernel_rfl)
        change wpList _ _ _ _ _ wr.drew
        go_wp2_with fail
        refine (HCz.out _).mono ?_
        rintro e w4 ⟨rfl, o4⟩
        have HR4 := Lib.hid (HR.out.same (w' := w4) fun q hq => o4.block q (HR.out.lt q hq).2 (fun c => c))
        have HO4 := Lib.hid ((HO.out.drewN 1).trans o4 (fun _ _ c => c.elim))
        clear o4
        go_wp2
        go_roundw
        case rel =>
          refine ⟨i, h, U1, U2a, y :: (U2b ++ U3), rfl, rfl, HI.out, ?_, by rw [← HUU.out]; simp, HU1.out, fun y' D hD => ?_, HR4.out, HO4.out⟩
          · have := HU2a.out; have := HI2.out; omega
          · simp only [List.cons.injEq] at hD
            rw [← hD.1]; exact HXY.out
        case measure => simp only [intOf]; have := HI2.out; have := HJ2.out; omega
      · have hz0 : 0 ≤ z := by rw [hz]; exact cmpZ_not hxy
        have hz1 : (!decide (z < 0)) = true := by rw [decide_eq_false (by omega)]; rfl
        have HXY := Lib.hid (Int.not_lt.1 hxy)
        clear hz hxy
        go_upto_region 17 with fail
        go_still_tail 9, (by kernel_rfl)
        change wpList _ _ _ _ _ wr.drew
        go_wp2_with fail
        refine (HCz.out _).mono ?_
        rintro e w4 ⟨rfl, o4⟩
        have HR4 := Lib.hid (HR.out.same (w' := w4) fun q hq => o4.block q (HR.out.lt q hq).2 (fun c => c))
        have HO4 := Lib.hid ((HO.out.drewN 1).trans o4 (fun _ _ c => c.elim))
        clear o4
        go_wp2
        go_roundw
        case rel =>
          refine ⟨h + 1, j, U1 ++ (U2a ++ [y]), U2b, U3, by go_num, rfl, ?_, ?_, by rw [← HUU.out]; simp, fun C y' hC => ?_, HU3.out, HR4.out, HO4.out⟩
          · have := HI.out; have := HU2a.out; have := HI2.out
            simp only [List.length_append, List.length_cons, List.length_nil]; omega
          · have := HL2.out; have := HU2a.out; have := HI2.out; have := HJ2.out; omega
          · have hl := congrArg List.getLast? hC
            have e1 : U1 ++ (U2a ++ [y]) = (U1 ++ U2a) ++ [y] := by simp
            rw [e1] at hl
            simp only [List.getLast?_concat, Option.some.injEq] at hl
            rw [← hl]; exact HXY.out
        case measure => simp only [intOf]; have := HI2.out; have := HJ2.out; omega
end Go.Proofs.YtienepcknafddaaDoor
end

section
set_option linter.unusedVariables false
set_option linter.unusedSimpArgs false
namespace Go.Proofs.YtienepcknafddaaDoor
open Go SimPlain HeapPlain SymPlain

/-- from where up to where the cut is looked for -/
def Bnds (a m b mid lo hi : Nat) : Prop := (mid < m ∧ lo + b = mid + m ∧ hi = mid) ∨ (m ≤ mid ∧ lo = a ∧ hi = m)
theorem Bnds.all {a m b mid lo hi : Nat} (h : Bnds a m b mid lo hi) (hmid : mid = (a + b) / 2) (h1 : a ≤ m) (h2 : m ≤ b) : a ≤ lo ∧ lo ≤ hi ∧ hi ≤ m ∧ hi ≤ mid ∧ mid + m ≤ lo + b := by
  rcases h with ⟨c1, c2, c3⟩ | ⟨c1, c2, c3⟩ <;> omega
theorem sym_split (A U V Q : List Ev) (a m b mid lo hi s en : Nat) (ha : a = A.length) (hm : m = a + U.length) (hb : b = m + V.length) (hmid : mid = (a + b) / 2) (hB : Bnds a m b mid lo hi) (hlo : lo ≤ s) (hhi : s ≤ hi) (hen : en + s = mid + m)
    (hU : U.Pairwise Lt) (hV : V.Pairwise Lt) (hUV : ∀ x ∈ U, ∀ y ∈ V, Bef x y)
    (hL : s = lo ∨ ((A ++ (U ++ (V ++ Q))).getD (s - 1) e0).t ≤ ((A ++ (U ++ (V ++ Q))).getD en e0).t) (hR : s = hi ∨ ((A ++ (U ++ (V ++ Q))).getD (en - 1) e0).t < ((A ++ (U ++ (V ++ Q))).getD s e0).t) :
    ∃ U1 U2 V1 V2, U = U1 ++ U2 ∧ V = V1 ++ V2 ∧ U1.length + a = s ∧ V1.length + m = en ∧ U1.length + V1.length + a = mid ∧ U2.length + mid = en ∧ (∀ x ∈ U1, ∀ y ∈ V2, Lt x y) ∧ (∀ x ∈ V1, ∀ y ∈ U2, Lt x y) := by
  obtain ⟨b1, b2, b3, b4, b5⟩ := hB.all hmid (by omega) (by omega)
  obtain ⟨U1, U2, rfl, hU1⟩ := cut_at U (s - a) (by omega)
  obtain ⟨V1, V2, rfl, hV1⟩ := cut_at V (en - m) (by rcases hB with ⟨c1, c2, c3⟩ | ⟨c1, c2, c3⟩ <;> omega)
  have lu : (U1 ++ U2).length = U1.length + U2.length := List.length_append
  have lv : (V1 ++ V2).length = V1.length + V2.length := List.length_append
  have e1 : U1.length + a = s := by omega
  have e2 : V1.length + m = en := by omega
  refine ⟨U1, U2, V1, V2, rfl, rfl, e1, e2, by omega, by omega, ?_, ?_⟩
  · refine cross (R := Lt) lt_trans hU hV fun C x y D hC hD => ?_
    have hx : (A ++ ((U1 ++ U2) ++ ((V1 ++ V2) ++ Q))).getD (s - 1) e0 = x := by
      have := getD_mid e0 (A ++ C) x (U2 ++ ((V1 ++ V2) ++ Q)) (i := s - 1) (by rw [hC] at e1; simp only [List.length_append, List.length_cons, List.length_nil] at e1 ⊢; omega)
      rw [hC]; simpa using this
    have hy : (A ++ ((U1 ++ U2) ++ ((V1 ++ V2) ++ Q))).getD en e0 = y := by
      have := getD_mid e0 (A ++ (U1 ++ U2) ++ V1) y (D ++ Q) (i := en) (by simp only [List.length_append] at hm ⊢; omega)
      rw [hD]; simpa using this
    have hbef : Bef x y := hUV x (by rw [hC]; simp) y (by rw [hD]; simp)
    rcases hL with h | h
    · exfalso
      have h1 : 0 < U1.length := by rw [hC]; simp
      have h2 : 0 < V2.length := by rw [hD]; simp
      rcases hB with ⟨c1, c2, c3⟩ | ⟨c1, c2, c3⟩ <;> omega
    · rw [hx, hy] at h
      exact lt_of_not (Int.not_lt.2 h) hbef
  · refine cross (R := Lt) lt_trans hV hU fun C x y D hC hD => ?_
    have hx : (A ++ ((U1 ++ U2) ++ ((V1 ++ V2) ++ Q))).getD (en - 1) e0 = x := by
      have := getD_mid e0 (A ++ (U1 ++ U2) ++ C) x (V2 ++ Q) (i := en - 1) (by rw [hC] at e2; simp only [List.length_append, List.length_cons, List.length_nil] at hm e2 ⊢; omega)
      rw [hC]; simpa using this
    have hy : (A ++ ((U1 ++ U2) ++ ((V1 ++ V2) ++ Q))).getD s e0 = y := by
      have := getD_mid e0 (A ++ U1) y (D ++ ((V1 ++ V2) ++ Q)) (i := s) (by simp only [List.length_append]; omega)
      rw [hD]; simpa using this
    rcases hR with h | h
    · exfalso
      have h1 : 0 < V1.length := by rw [hC]; simp
      have h2 : 0 < U2.length := by rw [hD]; simp
      rcases hB with ⟨c1, c2, c3⟩ | ⟨c1, c2, c3⟩ <;> omega
    · rw [hx, hy] at h
      exact lt_of_less h
end Go.Proofs.YtienepcknafddaaDoor
end
