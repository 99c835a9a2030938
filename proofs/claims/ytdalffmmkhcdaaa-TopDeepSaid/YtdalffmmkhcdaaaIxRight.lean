/- WALK: slices.symMergeCmpFunc of places by a closure: one on the right. -/
import Derived.Test.YtdalffmmkhcdaaaIxLeft
set_option linter.unusedVariables false
set_option linter.unusedSimpArgs false
namespace Go.Proofs.Ytdalffmmkhcdaaa
open Go Go.RowKit SimPlain HeapPlain SymPlain

set_option maxRecDepth 100000 in
set_option maxHeartbeats 4000000 in
theorem sym_right (A U : List Ev) (v : Ev) (Q : List Ev) (g cap : Nat) (B : IxE) (w : World) (N a m b : Nat) (hN : N = (A ++ (U ++ ([v] ++ Q))).length) (ha : a = A.length) (hm : m = a + U.length) (hb : b = m + 1) (hU2 : 2 ≤ U.length) (hU : U.Pairwise Lt) (hUV : ∀ y ∈ U, Bef y v) (h100 : N ≤ 100)
    (hrow : IxOwn w B (some ⟨g, 0, none⟩) cap (A ++ (U ++ ([v] ++ Q)))) :
    Calls Try.prog 33 #[.slice (some ⟨g, 0, none⟩) N cap, .int .i64 a, .int .i64 m, .int .i64 b, (fvK B)] w
      fun e w' => SymRes A U [v] Q g cap B w e w' := by
  have HN := Lib.hid hN
  have HA := Lib.hid ha
  have Hm := Lib.hid hm
  have HU := Lib.hid hU
  have HUV := Lib.hid hUV
  have hbN : b ≤ N := by rw [hN, hb, hm, ha]; simp only [List.length_append, List.length_cons, List.length_nil]; omega
  have ham : a + 2 ≤ m := by omega
  have hma : ((m : Int) - (a : Int) == 1) = false := by rw [beq_eq_false_iff_ne]; omega
  have hbm : (b : Int) - (m : Int) = 1 := by omega
  have hmN : m < N := by omega
  have lenN : (A ++ (U ++ v :: Q)).length = N := by rw [hN]; rfl
  have HLN := Lib.hid lenN
  have HRow : Hid (IxOwn w B (some ⟨g, 0, none⟩) cap (A ++ (U ++ v :: Q))) := Lib.hid (by have := hrow; simpa using this)
  have hgw := lt_of_block (hrow.block (by rw [← hN]; omega)).choose_spec
  clear hN ha hm hU hUV hrow lenN hU2 hb
  unfold fvK
  go_enter Try.func33, Try.ntmps33
  go_wp2
  go_loopw [14, 15] (fun iv jv wr => ∃ (i j : Nat) (U1 U2 U3 : List Ev), iv = .int .i64 i ∧ jv = .int .i64 j ∧ i = a + U1.length ∧ j = i + U2.length ∧ U1 ++ (U2 ++ U3) = U ∧ (∀ C y, U1 = C ++ [y] → y.t ≤ v.t) ∧ (∀ y D, U3 = y :: D → v.t < y.t) ∧
      IxOwn wr B (some ⟨g, 0, none⟩) cap (A ++ (U ++ v :: Q)) ∧ Only w wr (fun k => k = g))
    (fun iv jv _ => (intOf jv).toNat - (intOf iv).toNat)
  case atStart => exact ⟨a, m, [], U, [], rfl, rfl, rfl, Hm.out, by simp, fun C y h => by simp at h, fun y D h => by simp at h, HRow.out, Only.refl _ _⟩
  case round =>
    obtain ⟨i, j, U1, U2, U3, rfl, rfl, hi, hj, hUU, hU1, hU3, hR, hO⟩ := hrel
    have hlen : U1.length + (U2.length + U3.length) = U.length := by rw [← hUU, List.length_append, List.length_append]
    have HI := Lib.hid hi
    have HJ := Lib.hid hj
    have HUU := Lib.hid hUU
    have HU1 := Lib.hid hU1
    have HU3 := Lib.hid hU3
    have HR := Lib.hid hR
    have HO := Lib.hid hO
    have HL := Lib.hid hlen
    have hjm : j ≤ m := by have := Hm.out; omega
    have hai : a ≤ i := by omega
    clear hUU hU1 hU3 hR hO hlen
    rcases Nat.eq_zero_or_pos U2.length with h2 | h2
    · obtain rfl : U2 = [] := List.eq_nil_of_length_eq_zero h2
      obtain rfl : j = i := by simpa using hj
      have hd : decide ((j : Int) < (j : Int)) = false := by simp
      have hU3l : j + U3.length = m := by have h1 := HL.out; have h2 := Hm.out; have h3 := HI.out; simp only [List.length_nil] at h1; omega
      have hW : (U1 ++ v :: U3).Perm (U ++ [v]) ∧ (U1 ++ v :: U3).Pairwise Lt := by
        have hUp := HU.out
        have e : U = U1 ++ U3 := by rw [← HUU.out]; simp
        rw [e] at hUp ⊢
        refine one_right hUp (fun x hx => ?_) (fun y hy => ?_)
        · have h1 := cross (R := Lt) lt_trans (U1 := U1) (U2 := U3) (V1 := []) (V2 := [v]) hUp (by simp) (fun C x' y' D hC hD => by
            have hy' : y' = v := by simp at hD; exact hD.1.symm
            rw [hy']; exact lt_of_not (Int.not_lt.2 (HU1.out C x' hC)) (HUV.out x' (by rw [e, hC]; simp)))
          exact h1 x hx v (by simp)
        · have h1 := cross (R := Lt) lt_trans (U1 := [v]) (U2 := []) (V1 := U1) (V2 := U3) (by simp) hUp (fun C x' y' D hC hD => by
            have hx' : v = x' := by
              have := congrArg List.getLast? hC
              simpa using this
            rw [← hx']; exact lt_of_less (HU3.out y' D hD))
          exact h1 v (by simp) y hy
      have hRow2 : IxOwn wr B (some ⟨g, 0, none⟩) cap (A ++ (U1 ++ (U3 ++ v :: ([] ++ Q)))) := by
        have := HR.out
        rw [← HUU.out] at this
        simpa using this
      have HW := Lib.hid hW
      have HRow2 := Lib.hid hRow2
      have HU3l := Lib.hid hU3l
      clear hW hRow2 hU3l
      (try clear hi)
      (try clear hj)
      go_wp2
      go_loopw [17] (fun kv wk => ∃ (k : Nat) (C D : List Ev), kv = .int .i64 k ∧ k = j + C.length ∧ C ++ D = U3 ∧ IxOwn wk B (some ⟨g, 0, none⟩) cap (A ++ (U1 ++ (C ++ v :: (D ++ Q)))) ∧ Only w wk (fun k => k = g))
        (fun kv _ => (intOf kv).toNat)
      case atStart => exact ⟨m, U3, [], rfl, HU3l.out.symm, by simp, HRow2.out, HO.out⟩
      case round =>
        obtain ⟨k, C, D, rfl, hk, hCD, hR3, hO3⟩ := hrel
        have hCl : C.length + D.length = U3.length := by rw [← hCD, List.length_append]
        have HCD := Lib.hid hCD
        have HO3 := Lib.hid hO3
        have HK := Lib.hid hk
        clear hCD hO3
        by_cases hC0 : C = []
        · subst hC0
          obtain rfl : k = j := by simpa using hk
          have hdd : decide ((k : Int) < (k : Int)) = false := by simp
          have HR3 := Lib.hid hR3
          clear hR3 hCl
          (try clear hk)
          go_wp2
          (try simp only [Exit.inBlock, Exit.then])
          refine bodyPost_ret (results_none rfl _ _ _) rfl ?_
          refine ⟨U1 ++ v :: U3, rfl, HW.out.1, HW.out.2, ?_, HO3.out⟩
          have e : A ++ ((U1 ++ v :: U3) ++ Q) = A ++ (U1 ++ ([] ++ v :: (D ++ Q))) := by
            rw [← HCD.out]; simp
          rw [e]; exact HR3.out
        · obtain ⟨C', y, rfl⟩ := split_last C hC0
          obtain ⟨p, hp⟩ : ∃ p, k = p + 1 := ⟨k - 1, by rw [hk]; simp; omega⟩
          subst hp
          have p1 : p = (A ++ (U1 ++ C')).length := by
            have h1 := HA.out; have h2 := HI.out
            simp only [List.length_append, List.length_cons, List.length_nil] at hk ⊢
            omega
          have eL : A ++ (U1 ++ ((C' ++ [y]) ++ v :: (D ++ Q))) = (A ++ (U1 ++ C')) ++ y :: v :: (D ++ Q) := by simp
          rw [eL] at hR3
          have lenL : ((A ++ (U1 ++ C')) ++ y :: v :: (D ++ Q)).length = N := by
            have h1 := HLN.out
            have h2 := HUU.out
            rw [← h2, ← HCD.out] at h1
            rw [← h1]
            simp only [List.length_append, List.length_cons, List.length_nil]
            omega
          have gy : ((A ++ (U1 ++ C')) ++ y :: v :: (D ++ Q)).getD p e0 = y := getD_mid e0 _ y _ p1
          have gv : ((A ++ (U1 ++ C')) ++ y :: v :: (D ++ Q)).getD (p + 1) e0 = v := by
            have := getD_mid e0 ((A ++ (U1 ++ C')) ++ [y]) v (D ++ Q) (i := p + 1) (by rw [p1]; simp only [List.length_append, List.length_cons, List.length_nil])
            simpa using this
          have hkN : p + 1 < N := by rw [← lenL, p1]; simp only [List.length_append, List.length_cons, List.length_nil]; omega
          have x0 := hR3.cells p (by rw [lenL]; omega) gy
          have y0 := hR3.cells (p + 1) (by rw [lenL]; omega) gv
          have f0 := hR3.free (by rw [lenL]; omega) (p)
          have f2 := hR3.free (by rw [lenL]; omega) (p + 1)
          have hS := hR3.swap (p + 1) p (by rw [lenL]; omega) (by rw [lenL]; omega) gv gy
          rw [swapL_down e0 _ y v _ p1 (by rw [p1])] at hS
          have HS4 := Lib.hid hS
          have hjk : (j : Int) < (p : Int) + 1 := by
            simp only [List.length_append, List.length_cons, List.length_nil] at hk
            omega
          clear hS hR3 eL lenL gy gv p1 hCl hk hC0
          have ne00a : ¬ (p + 1) = p := by omega
          have ne00b : ¬ p = (p + 1) := by omega
          have z1 : (0 : Int) ≤ (p : Int) + 1 := by omega
          have z2 : ((p : Int) + 1).toNat = p + 1 := by omega
          have z3 : (p : Int) + 1 - 1 = (p : Int) := by omega
          have z4 : (p : Int) + 1 < (N : Int) := by omega
          have z5 : (p : Int) < (N : Int) := by omega
          have wk : IntKind.i64.wrap (p : Int) = (p : Int) := wrap_small (by omega)
          go_wp2
          go_region
          all_goals
            go_wp2
            go_roundw
            case rel =>
              refine ⟨p, C', y :: D, by go_num, by have := HK.out; simp only [List.length_append, List.length_cons, List.length_nil] at this; omega, by rw [← HCD.out]; simp, ?_, ?_⟩
              · have e : A ++ (U1 ++ (C' ++ v :: (y :: D ++ Q))) = (A ++ (U1 ++ C')) ++ v :: y :: (D ++ Q) := by simp
                rw [e]
                exact HS4.out.drewN 1
              · exact (HO3.out.trans (Only.swapT _ g (p + 1) p v y) (fun _ _ c => c)).drewN 1
            case measure => simp only [intOf]; omega
    · obtain ⟨h, hh⟩ : ∃ h, h = (i + j) / 2 := ⟨_, rfl⟩
      have hltI : (i : Int) < (j : Int) := by omega
      have hhI : ((i : Int) + (j : Int)) / 2 = (h : Int) := by omega
      obtain ⟨U2a, U2c, hU2, hU2a⟩ := cut_at U2 (h - i) (by omega)
      obtain ⟨y, U2b, hU2c⟩ : ∃ y U2b, U2c = y :: U2b := by
        cases U2c with
        | nil => have := congrArg List.length hU2; simp at this; omega
        | cons y U2b => exact ⟨y, U2b, rfl⟩
      subst hU2c
      subst hU2
      have hih : i ≤ h := by omega
      have hhj : h < j := by omega
      have hlen2 : U2a.length + (U2b.length + 1) = j - i := by have := hj; simp at this; omega
      have eL : A ++ (U ++ v :: Q) = (A ++ (U1 ++ U2a)) ++ y :: (U2b ++ (U3 ++ v :: Q)) := by rw [← HUU.out]; simp
      have gy : (A ++ (U ++ v :: Q)).getD h e0 = y := by
        rw [eL]
        refine getD_mid e0 _ y _ ?_
        simp only [List.length_append, List.length_cons]
        have := HA.out; omega
      have gv : (A ++ (U ++ v :: Q)).getD m e0 = v := by
        have := getD_mid e0 (A ++ U) v Q (i := m) (by rw [List.length_append, ← HA.out]; exact Hm.out)
        simpa using this
      have y0 := HR.out.cells h (by rw [HLN.out]; omega) gy
      have x0 := HR.out.cells m (by rw [HLN.out]; omega) gv
      obtain ⟨z, hz⟩ : ∃ z, z = cmpZ v.t y.t := ⟨_, rfl⟩
      have hCz := HR.out.cmp m h (by rw [HLN.out]; omega) (by rw [HLN.out]; omega) gv gy
      rw [← hz] at hCz
      have HCz := Lib.hid hCz
      have iN : (h : Int) < (N : Int) := by omega
      have mN : (m : Int) < (N : Int) := by omega
      have HH := Lib.hid hh
      have HI2 := Lib.hid hih
      have HJ2 := Lib.hid hhj
      have HL2 := Lib.hid hlen2
      have HU2a := Lib.hid hU2a
      clear hi hj hh eL gy gv hCz h2 hih hhj hlen2 hU2a
      by_cases hxy : v.t < y.t
      · rw [cmpZ_less hxy] at hz
        have hz0 : z < 0 := by omega
        have HXY := Lib.hid hxy
        clear hz hxy
        go_upto_region 17 with fail
        go_still_tail 9, (by kernel_rfl)
        change wpList _ _ _ _ _ wr.drew
        go_wp2_with fail
        refine (HCz.out _ ((Only.refl _ _).drewN 1)).mono ?_
        rintro e w4 ⟨rfl, o4⟩
        have HR4 := Lib.hid ((HR.out.drewN 1).still o4)
        have HO4 := Lib.hid ((HO.out.drewN 1).trans o4 (fun _ _ c => c.elim))
        clear o4
        go_wp2
        go_roundw
        case rel =>
          refine ⟨i, h, U1, U2a, y :: (U2b ++ U3), rfl, rfl, HI.out, ?_, by rw [← HUU.out]; simp, HU1.out, fun y' D hD => ?_, HR4.out, HO4.out⟩
          · have := HU2a.out; have := HI2.out; omega
          · simp only [List.cons.injEq] at hD
            rw [← hD.1]; exact HXY.out
        case measure => simp only [intOf]; have := HI2.out; have := HJ2.out; omega
      · have hz0 : 0 ≤ z := by rw [hz]; exact cmpZ_not hxy
        have hz1 : (!decide (z < 0)) = true := by rw [decide_eq_false (by omega)]; rfl
        have HXY := Lib.hid (Int.not_lt.1 hxy)
        clear hz hxy
        go_upto_region 17 with fail
        go_still_tail 9, (by kernel_rfl)
        change wpList _ _ _ _ _ wr.drew
        go_wp2_with fail
        refine (HCz.out _ ((Only.refl _ _).drewN 1)).mono ?_
        rintro e w4 ⟨rfl, o4⟩
        have HR4 := Lib.hid ((HR.out.drewN 1).still o4)
        have HO4 := Lib.hid ((HO.out.drewN 1).trans o4 (fun _ _ c => c.elim))
        clear o4
        go_wp2
        go_roundw
        case rel =>
          refine ⟨h + 1, j, U1 ++ (U2a ++ [y]), U2b, U3, by go_num, rfl, ?_, ?_, by rw [← HUU.out]; simp, fun C y' hC => ?_, HU3.out, HR4.out, HO4.out⟩
          · have := HI.out; have := HU2a.out; have := HI2.out
            simp only [List.length_append, List.length_cons, List.length_nil]; omega
          · have := HL2.out; have := HU2a.out; have := HI2.out; have := HJ2.out; omega
          · have hl := congrArg List.getLast? hC
            have e1 : U1 ++ (U2a ++ [y]) = (U1 ++ U2a) ++ [y] := by simp
            rw [e1] at hl
            simp only [List.getLast?_concat, Option.some.injEq] at hl
            rw [← hl]; exact HXY.out
        case measure => simp only [intOf]; have := HI2.out; have := HJ2.out; omega
end Go.Proofs.Ytdalffmmkhcdaaa
