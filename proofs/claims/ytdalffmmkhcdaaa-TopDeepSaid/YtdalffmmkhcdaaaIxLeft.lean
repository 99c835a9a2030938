/- WALK: slices.symMergeCmpFunc of places by a closure: one on the left. -/
import Derived.Test.YtdalffmmkhcdaaaIxIns
set_option linter.unusedVariables false
set_option linter.unusedSimpArgs false
namespace Go.Proofs.Ytdalffmmkhcdaaa
open Go Go.RowKit SimPlain HeapPlain SymPlain

/-- what a merge leaves -/
def SymRes (A U V Q : List Ev) (g cap : Nat) (B : IxE) (w : World) (e : Ending) (w' : World) : Prop :=
  ∃ W, e = .returned (.tuple #[]) ∧ W.Perm (U ++ V) ∧ W.Pairwise Lt ∧ IxOwn w' B (some ⟨g, 0, none⟩) cap (A ++ (W ++ Q)) ∧ Only w w' (fun k => k = g)
set_option maxRecDepth 100000 in
set_option maxHeartbeats 4000000 in
theorem sym_left (A : List Ev) (u : Ev) (V Q : List Ev) (g cap : Nat) (B : IxE) (w : World) (N a m b : Nat) (hN : N = (A ++ ([u] ++ (V ++ Q))).length) (ha : a = A.length) (hm : m = a + 1) (hb : b = m + V.length) (hV : V.Pairwise Lt) (hUV : ∀ y ∈ V, Bef u y) (h100 : N ≤ 100)
    (hrow : IxOwn w B (some ⟨g, 0, none⟩) cap (A ++ ([u] ++ (V ++ Q)))) :
    Calls Try.prog 33 #[.slice (some ⟨g, 0, none⟩) N cap, .int .i64 a, .int .i64 m, .int .i64 b, (fvK B)] w
      fun e w' => SymRes A [u] V Q g cap B w e w' := by
  have HN := Lib.hid hN
  have HA := Lib.hid ha
  have HB := Lib.hid hb
  have HV := Lib.hid hV
  have HUV := Lib.hid hUV
  have HRow := Lib.hid hrow
  have hbN : b ≤ N := by rw [hN, hb, hm, ha]; simp only [List.length_append, List.length_cons, List.length_nil]; omega
  have hmb : m ≤ b := by omega
  have hma : (m : Int) - (a : Int) = 1 := by omega
  have hgw := lt_of_block (hrow.block (by rw [← hN]; omega)).choose_spec
  have lenN : (A ++ u :: (V ++ Q)).length = N := by rw [hN]; rfl
  have HLN := Lib.hid lenN
  have Hm := Lib.hid hm
  clear hN ha hb hV hUV hrow hm lenN
  unfold fvK
  go_enter Try.func33, Try.ntmps33
  go_wp2
  go_loopw [10, 11] (fun iv jv wr => ∃ (i j : Nat) (V1 V2 V3 : List Ev), iv = .int .i64 i ∧ jv = .int .i64 j ∧ i = m + V1.length ∧ j = i + V2.length ∧ V1 ++ (V2 ++ V3) = V ∧ (∀ C y, V1 = C ++ [y] → y.t < u.t) ∧ (∀ y D, V3 = y :: D → u.t ≤ y.t) ∧
      IxOwn wr B (some ⟨g, 0, none⟩) cap (A ++ u :: (V ++ Q)) ∧ Only w wr (fun k => k = g))
    (fun iv jv _ => (intOf jv).toNat - (intOf iv).toNat)
  case atStart => exact ⟨m, b, [], V, [], rfl, rfl, rfl, HB.out, by simp, fun C y h => by simp at h, fun y D h => by simp at h, HRow.out, Only.refl _ _⟩
  case round =>
    obtain ⟨i, j, V1, V2, V3, rfl, rfl, hi, hj, hVV, hV1, hV3, hR, hO⟩ := hrel
    have hlen : V1.length + (V2.length + V3.length) = V.length := by rw [← hVV, List.length_append, List.length_append]
    have HI := Lib.hid hi
    have HJ := Lib.hid hj
    have HVV := Lib.hid hVV
    have HV1 := Lib.hid hV1
    have HV3 := Lib.hid hV3
    have HR := Lib.hid hR
    have HO := Lib.hid hO
    have HL := Lib.hid hlen
    have hjb : j ≤ b := by have := HB.out; omega
    have hmi : m ≤ i := by omega
    clear hVV hV1 hV3 hR hO hlen
    rcases Nat.eq_zero_or_pos V2.length with h2 | h2
    · obtain rfl : V2 = [] := List.eq_nil_of_length_eq_zero h2
      obtain rfl : j = i := by simpa using hj
      have hd : decide ((j : Int) < (j : Int)) = false := by simp
      have hV3l : V1.length + V3.length = V.length := by have := HL.out; simpa using this
      have hsub : (j : Int) - 1 = ((a + V1.length : Nat) : Int) := by have := Hm.out; omega
      clear h2 hi hj
      have hW : (V1 ++ u :: V3).Perm ([u] ++ V) ∧ (V1 ++ u :: V3).Pairwise Lt := by
        have hVp := HV.out
        have e : V = V1 ++ V3 := by rw [← HVV.out]; simp
        rw [e] at hVp ⊢
        refine one_left hVp (fun x hx => ?_) (fun y hy => ?_)
        · have h1 := cross (R := Lt) lt_trans (U1 := V1) (U2 := V3) (V1 := []) (V2 := [u]) hVp (by simp) (fun C x' y' D hC hD => by
            have hy' : y' = u := by simp at hD; exact hD.1.symm
            rw [hy']; exact lt_of_less (HV1.out C x' hC))
          exact h1 x hx u (by simp)
        · have h1 := cross (R := Lt) lt_trans (U1 := [u]) (U2 := []) (V1 := V1) (V2 := V3) (by simp) hVp (fun C x' y' D hC hD => by
            have hx' : u = x' := by
              have := congrArg List.getLast? hC
              simpa using this
            rw [← hx']; exact lt_of_not (Int.not_lt.2 (HV3.out y' D hD)) (HUV.out y' (by rw [e, hD]; simp)))
          exact h1 u (by simp) y hy
      have hRow2 : IxOwn wr B (some ⟨g, 0, none⟩) cap (A ++ ([] ++ u :: (V1 ++ (V3 ++ Q)))) := by
        have := HR.out
        rw [← HVV.out] at this
        simpa using this
      have HW := Lib.hid hW
      have HRow2 := Lib.hid hRow2
      have HV3l := Lib.hid hV3l
      clear hW hRow2 hV3l
      (try clear hi)
      (try clear hj)
      go_wp2
      go_loopw [13] (fun kv wk => ∃ (k : Nat) (C D : List Ev), kv = .int .i64 k ∧ k = a + C.length ∧ C ++ D = V1 ∧ IxOwn wk B (some ⟨g, 0, none⟩) cap (A ++ (C ++ u :: (D ++ (V3 ++ Q)))) ∧ Only w wk (fun k => k = g))
        (fun kv _ => a + V1.length - (intOf kv).toNat)
      case atStart => exact ⟨a, [], V1, rfl, rfl, rfl, HRow2.out, HO.out⟩
      case round =>
        obtain ⟨k, C, D, rfl, hk, hCD, hR3, hO3⟩ := hrel
        have hCl : C.length + D.length = V1.length := by rw [← hCD, List.length_append]
        have HCD := Lib.hid hCD
        have HO3 := Lib.hid hO3
        have HK := Lib.hid hk
        clear hCD hO3
        cases D with
        | nil =>
          obtain ⟨q, hq⟩ : ∃ q, q = a + V1.length := ⟨_, rfl⟩
          have hkq : k = q := by simp at hCl; omega
          subst hkq
          rw [← hq] at hsub
          have hdd : decide (k < k) = false := by simp
          have HR3 := Lib.hid hR3
          clear hR3 hCl hk hq
          go_wp2
          (try simp only [Exit.inBlock, Exit.then])
          refine bodyPost_ret (results_none rfl _ _ _) rfl ?_
          refine ⟨V1 ++ u :: V3, rfl, HW.out.1, HW.out.2, ?_, HO3.out⟩
          have e : A ++ ((V1 ++ u :: V3) ++ Q) = A ++ (C ++ u :: ([] ++ (V3 ++ Q))) := by
            rw [← HCD.out]; simp
          rw [e]; exact HR3.out
        | cons y D' =>
          have p1 : k = (A ++ C).length := by rw [List.length_append, ← HA.out]; exact hk
          have eL : A ++ (C ++ u :: (y :: D' ++ (V3 ++ Q))) = (A ++ C) ++ u :: ([] ++ y :: (D' ++ (V3 ++ Q))) := by simp
          rw [eL] at hR3
          have lenL : ((A ++ C) ++ u :: ([] ++ y :: (D' ++ (V3 ++ Q)))).length = N := by
            have h1 := HLN.out
            have h2 := HV3l.out
            rw [← HVV.out, ← HCD.out] at h1
            rw [← h1]
            simp only [List.length_append, List.length_cons, List.length_nil]
            omega
          have gu : ((A ++ C) ++ u :: ([] ++ y :: (D' ++ (V3 ++ Q)))).getD k e0 = u := getD_mid e0 _ u _ p1
          have gy : ((A ++ C) ++ u :: ([] ++ y :: (D' ++ (V3 ++ Q)))).getD (k + 1) e0 = y := by
            have := getD_mid e0 ((A ++ C) ++ [u]) y (D' ++ (V3 ++ Q)) (i := k + 1) (by rw [p1]; simp only [List.length_append, List.length_cons, List.length_nil])
            simpa using this
          have hkN : k + 1 < N := by rw [← lenL, p1]; simp only [List.length_append, List.length_cons, List.length_nil]; omega
          have x0 := hR3.cells k (by rw [lenL]; omega) gu
          have y0 := hR3.cells (k + 1) (by rw [lenL]; omega) gy
          have f0 := hR3.free (by rw [lenL]; omega) (k)
          have f2 := hR3.free (by rw [lenL]; omega) (k + 1)
          have hS := hR3.swap k (k + 1) (by rw [lenL]; omega) (by rw [lenL]; omega) gu gy
          rw [swapL_mid e0 _ u [] y _ p1 (by rw [p1]; rfl)] at hS
          have HS4 := Lib.hid hS
          have hkq : k < a + V1.length := by simp at hCl; omega
          have hkqI : (k : Int) < ((a + V1.length : Nat) : Int) := by omega
          generalize hq : a + V1.length = q at *
          have Hq := Lib.hid hq
          clear hq hS hR3 eL lenL gu gy p1 hCl hk
          have ne00a : ¬ (k + 1) = k := by omega
          have ne00b : ¬ k = (k + 1) := by omega
          have z1 : (0 : Int) ≤ (k : Int) + 1 := by omega
          have z2 : ((k : Int) + 1).toNat = k + 1 := by omega
          have z4 : (k : Int) + 1 < (N : Int) := by omega
          have z5 : (k : Int) < (N : Int) := by omega
          go_wp2
          go_region
          all_goals
            go_wp2
            go_roundw
            case rel =>
              refine ⟨k + 1, C ++ [y], D', by go_num, by have := HK.out; rw [List.length_append]; simp; omega, by rw [← HCD.out]; simp, ?_, ?_⟩
              · have e : A ++ ((C ++ [y]) ++ u :: (D' ++ (V3 ++ Q))) = (A ++ C) ++ y :: ([] ++ u :: (D' ++ (V3 ++ Q))) := by simp
                rw [e]
                exact HS4.out.drewN 1
              · exact (HO3.out.trans (Only.swapT _ g k (k + 1) u y) (fun _ _ c => c)).drewN 1
            case measure => simp only [intOf]; omega
    · obtain ⟨h, hh⟩ : ∃ h, h = (i + j) / 2 := ⟨_, rfl⟩
      have hltI : (i : Int) < (j : Int) := by omega
      have hhI : ((i : Int) + (j : Int)) / 2 = (h : Int) := by omega
      obtain ⟨V2a, V2c, hV2, hV2a⟩ := cut_at V2 (h - i) (by omega)
      obtain ⟨y, V2b, hV2c⟩ : ∃ y V2b, V2c = y :: V2b := by
        cases V2c with
        | nil => have := congrArg List.length hV2; simp at this; omega
        | cons y V2b => exact ⟨y, V2b, rfl⟩
      subst hV2c
      subst hV2
      have hih : i ≤ h := by omega
      have hhj : h < j := by omega
      have hlen2 : V2a.length + (V2b.length + 1) = j - i := by have := hj; simp at this; omega
      have eL : A ++ u :: (V ++ Q) = (A ++ u :: (V1 ++ V2a)) ++ y :: (V2b ++ (V3 ++ Q)) := by rw [← HVV.out]; simp
      have gy : (A ++ u :: (V ++ Q)).getD h e0 = y := by
        rw [eL]
        refine getD_mid e0 _ y _ ?_
        simp only [List.length_append, List.length_cons]
        have := HA.out; have := Hm.out; omega
      have gu : (A ++ u :: (V ++ Q)).getD a e0 = u := getD_mid e0 _ u _ HA.out
      have y0 := HR.out.cells h (by rw [HLN.out]; omega) gy
      have x0 := HR.out.cells a (by rw [HLN.out]; omega) gu
      obtain ⟨z, hz⟩ : ∃ z, z = cmpZ y.t u.t := ⟨_, rfl⟩
      have hCz := HR.out.cmp h a (by rw [HLN.out]; omega) (by rw [HLN.out]; omega) gy gu
      rw [← hz] at hCz
      have HCz := Lib.hid hCz
      have iN : (h : Int) < (N : Int) := by omega
      have aN : (a : Int) < (N : Int) := by omega
      have HH := Lib.hid hh
      have HI2 := Lib.hid hih
      have HJ2 := Lib.hid hhj
      have HL2 := Lib.hid hlen2
      have HV2a := Lib.hid hV2a
      clear hi hj hh eL gy gu hCz h2 hih hhj hlen2 hV2a
      by_cases hxy : y.t < u.t
      · rw [cmpZ_less hxy] at hz
        have hz0 : z < 0 := by omega
        have HXY := Lib.hid hxy
        clear hz hxy
        go_upto_region 5 with fail
        go_still_tail 9, (by kernel_rfl)
        change wpList _ _ _ _ _ wr.drew
        go_wp2_with fail
        refine (HCz.out _ ((Only.refl _ _).drewN 1)).mono ?_
        rintro e w4 ⟨rfl, o4⟩
        have HR4 := Lib.hid ((HR.out.drewN 1).still o4)
        have HO4 := Lib.hid ((HO.out.drewN 1).trans o4 (fun _ _ c => c.elim))
        clear o4
        go_wp2
        go_roundw
        case rel =>
          refine ⟨h + 1, j, V1 ++ (V2a ++ [y]), V2b, V3, by go_num, rfl, ?_, ?_, by rw [← HVV.out]; simp, fun C y' hC => ?_, HV3.out, HR4.out, HO4.out⟩
          · have := HI.out; have := HV2a.out; have := HI2.out
            simp only [List.length_append, List.length_cons, List.length_nil]; omega
          · have := HL2.out; have := HV2a.out; have := HI2.out; have := HJ2.out; omega
          · have hl := congrArg List.getLast? hC
            have e1 : V1 ++ (V2a ++ [y]) = (V1 ++ V2a) ++ [y] := by simp
            rw [e1] at hl
            simp only [List.getLast?_concat, Option.some.injEq] at hl
            rw [← hl]; exact HXY.out
        case measure => simp only [intOf]; have := HI2.out; have := HJ2.out; omega
      · have hz0 : 0 ≤ z := by rw [hz]; exact cmpZ_not hxy
        have HXY := Lib.hid (Int.not_lt.1 hxy)
        clear hz hxy
        go_upto_region 5 with fail
        go_still_tail 9, (by kernel_rfl)
        change wpList _ _ _ _ _ wr.drew
        go_wp2_with fail
        refine (HCz.out _ ((Only.refl _ _).drewN 1)).mono ?_
        rintro e w4 ⟨rfl, o4⟩
        have HR4 := Lib.hid ((HR.out.drewN 1).still o4)
        have HO4 := Lib.hid ((HO.out.drewN 1).trans o4 (fun _ _ c => c.elim))
        clear o4
        go_wp2
        go_roundw
        case rel =>
          refine ⟨i, h, V1, V2a, y :: (V2b ++ V3), rfl, rfl, HI.out, ?_, by rw [← HVV.out]; simp, HV1.out, fun y' D hD => ?_, HR4.out, HO4.out⟩
          · have := HV2a.out; have := HI2.out; omega
          · simp only [List.cons.injEq] at hD
            rw [← hD.1]; exact HXY.out
        case measure => simp only [intOf]; have := HI2.out; have := HJ2.out; omega
end Go.Proofs.Ytdalffmmkhcdaaa
