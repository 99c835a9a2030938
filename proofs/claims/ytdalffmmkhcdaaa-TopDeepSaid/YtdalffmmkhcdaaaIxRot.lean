/- WALK: slices.rotateCmpFunc of places. -/
import Derived.Test.YtdalffmmkhcdaaaIxSwap
set_option linter.unusedVariables false
set_option linter.unusedSimpArgs false
namespace Go.Proofs.Ytdalffmmkhcdaaa
open Go Go.RowKit SimPlain HeapPlain SymPlain

set_option maxRecDepth 100000 in
set_option maxHeartbeats 4000000 in
theorem rotate_any (P U V Q : List Ev) (g cap : Nat) (B : IxE) (fv : Value) (w : World) (N a m b : Nat) (hN : N = (P ++ (U ++ (V ++ Q))).length) (ha : a = P.length) (hm : m = P.length + U.length) (hb : b = P.length + U.length + V.length) (hU : 0 < U.length) (hV : 0 < V.length) (h100 : N ≤ 100)
    (hrow : IxOwn w B (some ⟨g, 0, none⟩) cap (P ++ (U ++ (V ++ Q)))) :
    Calls Try.prog 35 #[.slice (some ⟨g, 0, none⟩) N cap, .int .i64 a, .int .i64 m, .int .i64 b, fv] w
      fun e w' => e = .returned (.tuple #[]) ∧ IxOwn w' B (some ⟨g, 0, none⟩) cap (P ++ (V ++ (U ++ Q))) ∧ Only w w' (fun k => k = g) := by
  have hab : a ≤ m := by omega
  have hbN : b ≤ N := by rw [hN, hb]; simp only [List.length_append]; omega
  have hmb : m ≤ b := by omega
  obtain ⟨i0, hi0⟩ : ∃ i, i = U.length := ⟨_, rfl⟩
  obtain ⟨j0, hj0⟩ : ∃ j, j = V.length := ⟨_, rfl⟩
  have s1 : (m : Int) - (a : Int) = (i0 : Int) := by omega
  have s2 : (b : Int) - (m : Int) = (j0 : Int) := by omega
  have HN := Lib.hid hN
  have HM := Lib.hid hm
  have HU := Lib.hid hU
  have HV := Lib.hid hV
  have HRow := Lib.hid hrow
  have Hi0 := Lib.hid hi0
  have Hj0 := Lib.hid hj0
  have hNe := hN
  simp only [List.length_append] at hNe
  have HNe := Lib.hid hNe
  clear hN hNe ha hm hb hU hV hrow hi0 hj0
  go_enter Try.func35, Try.ntmps35
  go_wp2
  go_loopw [10, 11] (fun iv jv wr => ∃ (i j : Nat) (X U2 V2 Y : List Ev), iv = .int .i64 i ∧ jv = .int .i64 j ∧ U2.length = i ∧ V2.length = j ∧ 0 < i ∧ 0 < j ∧ P.length + X.length + i = m ∧ X ++ (V2 ++ (U2 ++ Y)) = V ++ U ∧
      IxOwn wr B (some ⟨g, 0, none⟩) cap (P ++ (X ++ (U2 ++ (V2 ++ (Y ++ Q))))) ∧ Only w wr (fun k => k = g))
    (fun iv jv _ => (intOf iv).toNat + (intOf jv).toNat)
  case atStart => exact ⟨i0, j0, [], U, V, [], rfl, rfl, Hi0.out.symm, Hj0.out.symm, by rw [Hi0.out]; exact HU.out, by rw [Hj0.out]; exact HV.out, by rw [HM.out, Hi0.out]; simp, by simp, by simpa using HRow.out, Only.refl _ _⟩
  case round =>
    obtain ⟨i, j, X, U2, V2, Y, rfl, rfl, hU2, hV2, hi, hj, hmi, hXY, hR, hO⟩ := hrel
    have HXY := Lib.hid hXY
    have HR := Lib.hid hR
    have HO := Lib.hid hO
    have hlen : X.length + (j + (i + Y.length)) = V.length + U.length := by have := congrArg List.length hXY; simpa [hU2, hV2] using this
    have hNl : N = P.length + (X.length + (i + (j + (Y.length + Q.length)))) := by rw [HNe.out]; omega
    obtain ⟨p, hp⟩ : ∃ p, p = P.length + X.length := ⟨_, rfl⟩
    have Hp := Lib.hid hp
    have s3 : (m : Int) - (i : Int) = (p : Int) := by omega
    have hpm : p + i = m := by omega
    have HNl := Lib.hid hNl
    have hjN : m + j ≤ N := by omega
    have HU2 := Lib.hid hU2
    have HV2 := Lib.hid hV2
    clear hXY hR hO hlen hmi hp hU2 hV2 hNl
    rcases Nat.lt_trichotomy i j with hij | hij | hij
    · obtain ⟨d, hd⟩ : ∃ d, j = d + i := ⟨j - i, by omega⟩
      obtain ⟨Va, Vb, hVab, hVa⟩ := cut_at V2 d (by rw [HV2.out]; omega)
      subst hVab
      have hVb : Vb.length = i := by have := HV2.out; rw [List.length_append] at this; omega
      obtain ⟨q, hq⟩ : ∃ q, q = m + d := ⟨_, rfl⟩
      have hSW := swapRange_any (P ++ X) U2 Va Vb (Y ++ Q) g cap B fv wr N p q i (by rw [HNl.out]; simp only [List.length_append]; rw [HU2.out, hVb, hVa, hd]; omega) (by rw [Hp.out, List.length_append]) (by rw [hq, List.length_append, HU2.out, hVa, ← Hp.out]; omega) HU2.out.symm hVb.symm h100 (by have := HR.out; simpa using this)
      have HSW := Lib.hid hSW
      have HVa := Lib.hid hVa
      have HVb := Lib.hid hVb
      have Hd := Lib.hid hd
      have hne : ((i : Int) != (j : Int)) = true := by rw [bne_iff_ne]; omega
      have hlt : (i : Int) < (j : Int) := by omega
      have hgt : decide ((j : Int) < (i : Int)) = false := by rw [decide_eq_false_iff_not]; omega
      have s4 : (m : Int) + (j : Int) - (i : Int) = (q : Int) := by omega
      have s5 : (j : Int) - (i : Int) = (d : Int) := by omega
      clear hSW hVa hVb hd hq
      go_wp2_with fail
      refine HSW.out.mono ?_
      rintro e w2 ⟨rfl, hr2, ho2⟩
      have HR2 := Lib.hid hr2
      have HO2 := Lib.hid ho2
      clear hr2 ho2
      go_wp2_with fail
      go_roundw
      case rel =>
        refine ⟨i, d, X, Vb, Va, U2 ++ Y, rfl, by first | rfl | go_num, HVb.out, HVa.out, hi, by omega, by rw [← Hp.out]; exact hpm, by rw [← HXY.out]; simp, by have := HR2.out; simpa using this, HO.out.trans HO2.out (fun _ _ c => c)⟩
      case measure => simp only [intOf]; omega
    · subst hij
      have hSW := swapRange_any (P ++ X) U2 [] V2 (Y ++ Q) g cap B fv wr N p m i (by rw [HNl.out]; simp only [List.length_append, List.length_nil]; rw [HU2.out, HV2.out]; omega) (by rw [Hp.out, List.length_append]) (by rw [List.length_append, HU2.out, ← Hp.out]; simp; omega) HU2.out.symm HV2.out.symm h100 (by have := HR.out; simpa using this)
      have HSW := Lib.hid hSW
      clear hSW
      go_wp2_with fail
      refine HSW.out.mono ?_
      rintro e w2 ⟨rfl, hr2, ho2⟩
      have HR2 := Lib.hid hr2
      have HO2 := Lib.hid ho2
      clear hr2 ho2
      go_wp2_with fail
      go_end0
      refine ⟨rfl, ?_, HO.out.trans HO2.out (fun _ _ c => c)⟩
      have h := HR2.out
      have e1 : P ++ (V ++ (U ++ Q)) = P ++ X ++ (V2 ++ ([] ++ (U2 ++ (Y ++ Q)))) := by
        have := congrArg (fun t => P ++ (t ++ Q)) HXY.out
        simpa using this.symm
      rw [e1]; exact h
    · obtain ⟨d, hd⟩ : ∃ d, i = j + d := ⟨i - j, by omega⟩
      obtain ⟨Ua, Ub, hUab, hUa⟩ := cut_at U2 j (by rw [HU2.out]; omega)
      subst hUab
      have hUb : Ub.length = d := by have := HU2.out; rw [List.length_append] at this; omega
      have hSW := swapRange_any (P ++ X) Ua Ub V2 (Y ++ Q) g cap B fv wr N p m j (by rw [HNl.out]; simp only [List.length_append]; rw [HV2.out, hUa, hUb, hd]; omega) (by rw [Hp.out, List.length_append]) (by rw [List.length_append, hUa, hUb, ← Hp.out]; omega) hUa.symm HV2.out.symm h100 (by have := HR.out; simpa using this)
      have HSW := Lib.hid hSW
      have HUa := Lib.hid hUa
      have HUb := Lib.hid hUb
      have Hd := Lib.hid hd
      have hne : ((i : Int) != (j : Int)) = true := by rw [bne_iff_ne]; omega
      have hlt : (j : Int) < (i : Int) := by omega
      have s5 : (i : Int) - (j : Int) = (d : Int) := by omega
      clear hSW hUa hUb hd
      go_wp2_with fail
      refine HSW.out.mono ?_
      rintro e w2 ⟨rfl, hr2, ho2⟩
      have HR2 := Lib.hid hr2
      have HO2 := Lib.hid ho2
      clear hr2 ho2
      go_wp2_with fail
      go_roundw
      case rel =>
        refine ⟨d, j, X ++ V2, Ub, Ua, Y, by first | rfl | go_num, rfl, HUb.out, HUa.out, by omega, hj, by rw [List.length_append, HV2.out, ← Nat.add_assoc, ← Hp.out]; have := Hd.out; omega, by rw [← HXY.out]; simp, by have := HR2.out; simpa using this, HO.out.trans HO2.out (fun _ _ c => c)⟩
      case measure => simp only [intOf]; omega
end Go.Proofs.Ytdalffmmkhcdaaa
