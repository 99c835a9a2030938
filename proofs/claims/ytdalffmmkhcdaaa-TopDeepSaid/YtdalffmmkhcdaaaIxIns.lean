/- WALK: slices.insertionSortCmpFunc of places by a closure. -/
import Derived.Test.YtdalffmmkhcdaaaIxRot
set_option linter.unusedVariables false
set_option linter.unusedSimpArgs false
namespace Go.Proofs.Ytdalffmmkhcdaaa
open Go Go.RowKit SimPlain HeapPlain SymPlain

/-- who came in first -/
def Bef (a b : Ev) : Prop := a.s < b.s
theorem lt_trans (a b c : Ev) (h : Lt a b) (k : Lt b c) : Lt a c := by unfold Lt at *; omega
theorem lt_of_less {x y : Ev} (h : x.t < y.t) : Lt x y := .inl h
theorem lt_of_not {x y : Ev} (h : ¬ x.t < y.t) (hb : Bef y x) : Lt y x := by unfold Lt; unfold Bef at hb; omega
theorem wrap_small {k : Nat} (h : k ≤ 1000) : IntKind.i64.wrap (k : Int) = (k : Int) := IntWalk.i64_in _ (by omega)
set_option maxRecDepth 100000 in
set_option maxHeartbeats 4000000 in
theorem insertion_any (A U Q : List Ev) (g cap : Nat) (B : IxE) (w : World) (N a b : Nat) (hN : N = (A ++ (U ++ Q)).length) (ha : a = A.length) (hb : b = A.length + U.length) (hU : U.Pairwise Bef) (h100 : N ≤ 100) (hgw : g < w.heap.size)
    (hrow : IxOwn w B (some ⟨g, 0, none⟩) cap (A ++ (U ++ Q))) :
    Calls Try.prog 32 #[.slice (some ⟨g, 0, none⟩) N cap, .int .i64 a, .int .i64 b, (fvK B)] w
      fun e w' => ∃ W, e = .returned (.tuple #[]) ∧ W.Perm U ∧ W.Pairwise Lt ∧ IxOwn w' B (some ⟨g, 0, none⟩) cap (A ++ (W ++ Q)) ∧ Only w w' (fun k => k = g) := by
  have HN := Lib.hid hN
  have HA := Lib.hid ha
  have HB := Lib.hid hb
  have HU := Lib.hid hU
  have HRow := Lib.hid hrow
  have hbN : b ≤ N := by rw [hN, hb]; simp only [List.length_append]; omega
  have hab : a ≤ b := by omega
  clear hN ha hb hU hrow
  unfold fvK
  rcases Nat.lt_or_ge a b with hab1 | hab1
  · obtain ⟨u0, U0, hu0⟩ : ∃ u U', U = u :: U' := by
      cases U with
      | nil => have := HA.out; have := HB.out; simp at this; omega
      | cons u U' => exact ⟨u, U', rfl⟩
    have HU0 := Lib.hid hu0
    clear hu0
    go_enter Try.func32, Try.ntmps32
    go_wp2
    go_loopw [8] (fun iv wr => ∃ (i : Nat) (U1 U2 W : List Ev), iv = .int .i64 i ∧ i ≤ b ∧ a + U1.length = i ∧ U1 ++ U2 = U ∧ W.Perm U1 ∧ W.Pairwise Lt ∧ IxOwn wr B (some ⟨g, 0, none⟩) cap (A ++ (W ++ (U2 ++ Q))) ∧ Only w wr (fun k => k = g))
      (fun iv _ => b - (intOf iv).toNat)
    case atStart => exact ⟨a + 1, [u0], U0, [u0], by go_num, hab1, rfl, by rw [HU0.out]; rfl, List.Perm.refl _, by simp, by have := HRow.out; rw [HU0.out] at this; simpa using this, Only.refl _ _⟩
    case round =>
      obtain ⟨i, U1, U2, W, rfl, hib, hi, hUU, hp, hs, hR, hO⟩ := hrel
      have HUU := Lib.hid hUU
      have HP := Lib.hid hp
      have HS := Lib.hid hs
      have HR := Lib.hid hR
      have HO := Lib.hid hO
      have HI := Lib.hid hi
      have hUl : U1.length + U2.length = U.length := by rw [← hUU, List.length_append]
      clear hUU hp hs hR hO hi
      rcases Nat.lt_or_ge i b with hlt | hge
      · obtain ⟨x, U3, rfl⟩ : ∃ x U3, U2 = x :: U3 := by
          cases U2 with
          | nil => have := HB.out; have := HA.out; have := HI.out; simp at hUl; omega
          | cons x U3 => exact ⟨x, U3, rfl⟩
        have hltI : (i : Int) < (b : Int) := by omega
        have Hlt := Lib.hid hlt
        have hbef : ∀ y ∈ W, Bef y x := fun y hy => by
          have h1 := HU.out
          rw [← HUU.out] at h1
          exact (List.pairwise_append.1 h1).2.2 y (HP.out.mem_iff.1 hy) x (by simp)
        have HBef := Lib.hid hbef
        have HUl := Lib.hid hUl
        clear hlt hbef hUl
        obtain ⟨w1, hw1⟩ : ∃ w1, w1 = wr := ⟨_, rfl⟩
        go_wp2
        go_loopw [9] (fun jv wx => ∃ (j : Nat) (C D : List Ev), jv = .int .i64 j ∧ j ≤ i ∧ j = a + C.length ∧ C ++ D = W ∧ (∀ y ∈ D, Lt x y) ∧ IxOwn wx B (some ⟨g, 0, none⟩) cap (A ++ (C ++ x :: (D ++ (U3 ++ Q)))) ∧ Only w wx (fun k => k = g))
          (fun jv _ => (intOf jv).toNat)
        case atStart =>
          refine ⟨i, W, [], rfl, Nat.le_refl _, by rw [HP.out.length_eq]; exact HI.out.symm, by simp, by simp, by simpa using HR.out, HO.out⟩
        case round =>
          obtain ⟨j, C, D, rfl, hji, hj, hCD, hD, hR2, hO2⟩ := hrel
          have HCD := Lib.hid hCD
          have HD := Lib.hid hD
          have HO2 := Lib.hid hO2
          have HJ := Lib.hid hj
          have hlenN : (A ++ (C ++ x :: (D ++ (U3 ++ Q)))).length = N := by
            have h1 := HUl.out
            have h2 := HP.out.length_eq
            rw [← hCD] at h2
            rw [HN.out]
            simp only [List.length_append, List.length_cons] at h1 h2 ⊢
            omega
          clear hCD hD hO2
          by_cases hC0 : C = []
          · subst hC0
            have hja : j = a := by simpa using hj
            subst hja
            have HR2 := Lib.hid hR2
            have hdd : decide ((j : Int) < (j : Int)) = false := by simp
            clear hR2 hj hlenN
            go_wp2
            go_quiet (fail)
            go_wp2
            go_roundw
            case rel =>
              have hCD0 : D = W := by simpa using HCD.out
              have hmid := one_right (v := x) (U1 := []) (U2 := D) (R := Lt) (by rw [hCD0]; exact HS.out) (by simp) HD.out
              refine ⟨i + 1, U1 ++ [x], U3, x :: D, by go_num, Hlt.out, by rw [List.length_append, ← Nat.add_assoc, HI.out]; rfl, by rw [← HUU.out]; simp, ?_, hmid.2, ?_, HO2.out.drewN _⟩
              · have h1 := hmid.1
                simp only [List.nil_append] at h1
                rw [hCD0] at h1 ⊢
                exact h1.trans (HP.out.append_right [x])
              · have := HR2.out.drewN nq
                simpa using this
            case measure => simp only [intOf]; have := Hlt.out; omega
          · obtain ⟨C', y, rfl⟩ := split_last C hC0
            obtain ⟨k, hk⟩ : ∃ k, j = k + 1 := ⟨j - 1, by rw [hj]; simp; omega⟩
            subst hk
            have hkC : k = (A ++ C').length := by have h1 := HA.out; rw [List.length_append]; simp at hj; omega
            have eL : A ++ ((C' ++ [y]) ++ x :: (D ++ (U3 ++ Q))) = (A ++ C') ++ y :: x :: (D ++ (U3 ++ Q)) := by simp
            rw [eL] at hR2 hlenN
            have hkN : k + 1 < N := by rw [← hlenN, hkC]; simp only [List.length_append, List.length_cons]; omega
            have gy : ((A ++ C') ++ y :: x :: (D ++ (U3 ++ Q))).getD k e0 = y := getD_mid e0 _ y _ hkC
            have gx : ((A ++ C') ++ y :: x :: (D ++ (U3 ++ Q))).getD (k + 1) e0 = x := by
              have := getD_mid e0 ((A ++ C') ++ [y]) x (D ++ (U3 ++ Q)) (i := k + 1) (by rw [hkC]; simp only [List.length_append, List.length_cons, List.length_nil])
              simpa using this
            have y0 := hR2.cells k (by rw [hlenN]; omega) gy
            have x0 := hR2.cells (k + 1) (by rw [hlenN]; omega) gx
            have HR2 := Lib.hid hR2
            have HG := Lib.hid (And.intro gx gy)
            have HKC := Lib.hid hkC
            have HLN := Lib.hid hlenN
            have hgx := lt_of_block (hR2.block (by rw [hlenN]; omega)).choose_spec
            have hka : (a : Int) < (k : Int) + 1 := by have := HJ.out; simp at this; omega
            have z1 : (0 : Int) ≤ (k : Int) + 1 := by omega
            have z2 : ((k : Int) + 1).toNat = k + 1 := by omega
            have z3 : (k : Int) + 1 - 1 = (k : Int) := by omega
            have z4 : (k : Int) + 1 < (N : Int) := by omega
            have wk : IntKind.i64.wrap (k : Int) = (k : Int) := wrap_small (by omega)
            have z5 : (k : Int) < (N : Int) := by omega
            obtain ⟨z, hz⟩ : ∃ z, z = cmpZ x.t y.t := ⟨_, rfl⟩
            have hCz := hR2.cmp (k + 1) k (by rw [hlenN]; omega) (by rw [hlenN]; omega) gx gy
            rw [← hz] at hCz
            have HCz := Lib.hid hCz
            have HKa := Lib.hid hka
            clear hCz hR2 gx gy hkC hlenN eL hj hC0
            by_cases hxy : x.t < y.t
            · rw [cmpZ_less hxy] at hz
              have hz0 : z < 0 := by omega
              have HLt := Lib.hid (lt_of_less hxy)
              clear hz hxy
              go_upto_region 4 with fail
              go_still_tail 14, (by kernel_rfl)
              change wpList _ _ _ _ _ wr.drew
              go_wp2_with fail
              refine (HCz.out _ ((Only.refl _ _).drewN 1)).mono ?_
              rintro e w4 ⟨rfl, o4⟩
              have hR4 := (HR2.out.drewN 1).still o4
              have HO4 := Lib.hid ((HO2.out.drewN 1).trans o4 (fun _ _ c => c.elim))
              have y0 := hR4.cells k (by rw [HLN.out]; omega) HG.out.2
              have x0 := hR4.cells (k + 1) (by rw [HLN.out]; omega) HG.out.1
              have f0 := hR4.free (by rw [HLN.out]; omega) (k)
              have f2 := hR4.free (by rw [HLN.out]; omega) (k + 1)
              have hS := hR4.swap (k + 1) k (by rw [HLN.out]; omega) (by rw [HLN.out]; omega) HG.out.1 HG.out.2
              rw [swapL_down e0 _ y x _ HKC.out (by rw [HKC.out])] at hS
              have HS4 := Lib.hid hS
              have ne00a : ¬ (k + 1) = k := by omega
              have ne00b : ¬ k = (k + 1) := by omega
              clear o4 hR4 hS
              go_wp2
              go_region
              all_goals
                go_wp2
                go_roundw
                case rel =>
                  refine ⟨k, C', y :: D, by go_num, by omega, by have := HKC.out; rw [List.length_append, ← HA.out] at this; exact this, by rw [← HCD.out]; simp, fun v hv => ?_, ?_, ?_⟩
                  · rcases List.mem_cons.1 hv with e | e
                    · rw [e]; exact HLt.out
                    · exact HD.out v e
                  · have e : A ++ (C' ++ x :: (y :: D ++ (U3 ++ Q))) = (A ++ C') ++ x :: y :: (D ++ (U3 ++ Q)) := by simp
                    rw [e]
                    exact HS4.out.drewN 1
                  · exact (HO4.out.trans (Only.swapT _ g (k + 1) k x y) (fun _ _ c => c)).drewN 1
                case measure => simp only [intOf]; omega
            · have hz0 : 0 ≤ z := by rw [hz]; exact cmpZ_not hxy
              have HLt := Lib.hid (lt_of_not hxy (HBef.out y (by rw [← HCD.out]; simp)))
              clear hz hxy
              go_upto_region 4 with fail
              go_still_tail 14, (by kernel_rfl)
              change wpList _ _ _ _ _ wr.drew
              go_wp2_with fail
              refine (HCz.out _ ((Only.refl _ _).drewN 1)).mono ?_
              rintro e w4 ⟨rfl, o4⟩
              have hR4 := (HR2.out.drewN 1).still o4
              have HR4 := Lib.hid hR4
              have HO4 := Lib.hid ((HO2.out.drewN 1).trans o4 (fun _ _ c => c.elim))
              clear o4 hR4
              go_wp2
              go_roundw
              case rel =>
                have hmid := one_right (v := x) (U1 := C' ++ [y]) (U2 := D) (R := Lt) (by rw [HCD.out]; exact HS.out) (all_before lt_trans (by have := HS.out; rw [← HCD.out] at this; exact (List.pairwise_append.1 this).1) HLt.out) HD.out
                refine ⟨i + 1, U1 ++ [x], U3, (C' ++ [y]) ++ x :: D, by go_num, Hlt.out, by rw [List.length_append, ← Nat.add_assoc, HI.out]; rfl, by rw [← HUU.out]; simp, ?_, hmid.2, ?_, HO4.out⟩
                · rw [HCD.out] at hmid
                  exact hmid.1.trans (HP.out.append_right [x])
                · have e : A ++ ((C' ++ [y] ++ x :: D) ++ (U3 ++ Q)) = (A ++ C') ++ y :: x :: (D ++ (U3 ++ Q)) := by simp
                  rw [e]
                  exact HR4.out
              case measure => simp only [intOf]; have := Hlt.out; omega
      · obtain rfl : i = b := by omega
        obtain rfl : U2 = [] := by
          cases U2 with
          | nil => rfl
          | cons x U3 => have := HB.out; have := HA.out; have := HI.out; simp at hUl; omega
        have hd : decide (i < i) = false := by simp
        clear hUl
        go_wp2
        go_end0
        refine ⟨W, rfl, ?_, HS.out, by have := HR.out; simpa using this, HO.out⟩
        have := HUU.out
        rw [List.append_nil] at this
        rw [← this]; exact HP.out
  · obtain rfl : U = [] := List.eq_nil_of_length_eq_zero (by have := HB.out; have := HA.out; omega)
    have hd : decide ((a : Int) + 1 < (b : Int)) = false := by rw [decide_eq_false_iff_not]; omega
    go_enter Try.func32, Try.ntmps32
    go_wp2
    refine wp_loop_rounds 1 ?_
    rw [rounds_succ]
    go_wp2
    go_end0
    exact ⟨[], rfl, List.Perm.refl _, by simp, HRow.out, Only.refl _ _⟩
end Go.Proofs.Ytdalffmmkhcdaaa
