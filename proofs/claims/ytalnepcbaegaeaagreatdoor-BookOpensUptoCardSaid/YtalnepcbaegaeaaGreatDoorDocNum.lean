/- WALK: the document's Number. -/
import Derived.Test.YtalnepcbaegaeaaGreatDoorBkDoc
import Derived.Test.YtalnepcbaegaeaaGreatDoorDocNumP
import Derived.Laws.Concat
set_option linter.unusedVariables false
set_option linter.unusedSimpArgs false
namespace Go.Proofs.YtalnepcbaegaeaaGreatDoor
open Go Go.RowKit BookPlain NumPlain

theorem itoa_min : Lib.itoa (-9223372036854775808) = [45, 57, 50, 50, 51, 51, 55, 50, 48, 51, 54, 56, 53, 52, 55, 55, 53, 56, 48, 56] := by
  unfold Lib.itoa
  rw [if_pos (by decide)]
  simp [Lib.decDigits]
theorem rdigits_all (n : Int) (h0 : -9223372036854775808 ≤ n) (h1 : n ≤ 9223372036854775807) (w : World) :
    Calls Tryz.prog 40 #[.int .i64 n] w fun e w' => e = .returned (.string ⟨(Lib.itoa n).toArray⟩) ∧ w' = w := by
  by_cases h : n = -9223372036854775808
  · subst h
    rw [itoa_min]
    go_enter Tryz.func40, Tryz.ntmps40
    go_wp2
    go_ret
    exact ⟨rfl, rfl⟩
  · exact rdigits_any n (by omega) h1 w
theorem wrap_step (a c : Int) : wrap64 (wrap64 (wrap64 (wrap64 a * 10) + c) - 48) = wrap64 (a * 10 + c - 48) := by
  unfold wrap64
  omega
theorem wrap_nil : wrap64 ((valD [] : Nat) : Int) = 0 := by simp [valD, wrap64]
theorem wrap_is (x : Int) : IntKind.i64.wrap x = wrap64 x := by
  simp only [IntKind.wrap, IntKind.bits, IntKind.signed, wrap64]
  simp
  split <;> omega
theorem wrap_range (x : Int) : -9223372036854775808 ≤ wrap64 x ∧ wrap64 x ≤ 9223372036854775807 := by unfold wrap64; omega
theorem take_drop_snoc (s : List UInt8) (i j : Nat) (h : i ≤ j) (hj : j < s.length) : (s.take (j + 1)).drop i = (s.take j).drop i ++ [s.getD j 0] := by
  rw [List.take_add_one, List.getElem?_eq_getElem hj, List.drop_append_of_le_length (by rw [List.length_take]; omega), List.getD_eq_getElem?_getD, List.getElem?_eq_getElem hj]
  rfl
def DNumRes (s : List UInt8) (w : World) (e : Ending) (w' : World) : Prop :=
  ∃ v b, e = .returned (.tuple #[.int .i64 v, .bool b]) ∧ (b = true → numP s = some v) ∧ (b = false → numP s = none) ∧ w' = w
set_option maxRecDepth 100000 in
set_option maxHeartbeats 4000000 in
theorem rnumber_any (s : List UInt8) (hs : s.length ≤ 4000000000) (w : World) : Calls Tryz.prog 26 #[.string ⟨s.toArray⟩] w fun e w' => DNumRes s w e w' := by
  obtain ⟨Y, hY⟩ : ∃ Y : ByteArray, Y = ⟨s.toArray⟩ := ⟨_, rfl⟩
  have hYs : Y.size = s.length := by rw [hY]; simp [ByteArray.size]
  rw [← hY]
  have hget : ∀ j (hj : j < Y.size), Y[j]'hj = s.getD j 0 := fun j hj => by
    subst hY
    rw [List.getD_eq_getElem?_getD, List.getElem?_eq_getElem (by omega)]
    rfl
  have HGet := Lib.hid hget
  have HYs := Lib.hid hYs
  have HY := Lib.hid hY
  have hsz : Y.size ≤ 4000000000 := by omega
  obtain ⟨i0, hi0⟩ : ∃ i0 : Nat, i0 = if signed s = true then 1 else 0 := ⟨_, rfl⟩
  have hdig : digitsOf s = s.drop i0 := by
    rw [hi0]; unfold digitsOf
    by_cases h : signed s = true
    · rw [if_pos h, if_pos h]
    · rw [if_neg h, if_neg h]; rfl
  have hi1 : i0 ≤ 1 := by rw [hi0]; split <;> omega
  obtain ⟨D, hD⟩ : ∃ D : Nat → List UInt8, D = fun j => (s.take j).drop i0 := ⟨_, rfl⟩
  obtain ⟨LO, hLO⟩ : ∃ LO : Nat → Prop, LO = fun j => i0 ≤ j := ⟨_, rfl⟩
  have HD0 : Hid (D i0 = [] ∧ LO i0) := Lib.hid ⟨by rw [hD]; simp, by rw [hLO]; exact Nat.le_refl i0⟩
  have HD1 : Hid (∀ j, LO j → j < Y.size → D (j + 1) = D j ++ [s.getD j 0] ∧ LO (j + 1) ∧ s.getD j 0 ∈ digitsOf s) := Lib.hid fun j h1 h2 => by
    rw [hLO] at h1 ⊢
    rw [hD]
    refine ⟨take_drop_snoc s i0 j h1 (by omega), Nat.le_succ_of_le h1, ?_⟩
    rw [hdig, List.getD_eq_getElem?_getD, List.getElem?_eq_getElem (by omega)]
    show s[j]'(by omega) ∈ s.drop i0
    rw [List.mem_drop_iff_getElem]
    exact ⟨j - i0, by omega, by congr 1; omega⟩
  have HD2 : Hid (D Y.size = digitsOf s) := Lib.hid (by rw [hD, hdig, hYs]; simp)
  obtain ⟨sg, hsg⟩ : ∃ b, b = signed s := ⟨_, rfl⟩
  have HSg := Lib.hid hsg
  have hcase : (Y.size = 0 ∧ digitsOf s = [] ∧ i0 = 0) ∨ (∃ h : 0 < Y.size, ((((Y[0]'h).toNat : Nat) : Int) == 45) = true ∧ Y.size = 1 ∧ digitsOf s = [] ∧ i0 = 1) ∨
      (∃ h : 0 < Y.size, ((((Y[0]'h).toNat : Nat) : Int) == 45) = true ∧ (((Y.size : Int) == 1) = false ∧ sg = true) ∧ i0 = 1) ∨ (∃ h : 0 < Y.size, ((((Y[0]'h).toNat : Nat) : Int) == 45) = false ∧ (((Y.size : Int) == 0) = false ∧ sg = false) ∧ i0 = 0) := by
    rw [hsg]
    rcases Nat.eq_zero_or_pos Y.size with h | h
    · left
      have : s = [] := List.eq_nil_of_length_eq_zero (by omega)
      refine ⟨h, by rw [this]; rfl, ?_⟩
      rw [hi0, this]; rfl
    · right
      have h0 := hget 0 h
      cases hs' : s with
      | nil => rw [hs'] at hYs; have h3 : Y.size = 0 := hYs; omega
      | cons c r =>
        rw [hs'] at h0
        have h0' : Y[0]'h = c := h0
        by_cases hc : c = 45
        · have e1 : i0 = 1 := by rw [hi0, hs', hc]; rfl
          have e2 : signed (c :: r) = true := by rw [hc]; rfl
          have e3 : ((((Y[0]'h).toNat : Nat) : Int) == 45) = true := by rw [h0', hc]; rfl
          by_cases h1 : Y.size = 1
          · left
            refine ⟨h, e3, h1, ?_, e1⟩
            have hr : r = [] := by
              rw [hs'] at hYs
              have h3 : Y.size = r.length + 1 := hYs
              exact List.eq_nil_of_length_eq_zero (by omega)
            rw [hr, hc]; rfl
          · right; left
            exact ⟨h, e3, ⟨by rw [beq_eq_false_iff_ne]; omega, e2⟩, e1⟩
        · right; right
          have e2 : signed (c :: r) = false := by simp [signed, hc]
          refine ⟨h, ?_, ⟨by rw [beq_eq_false_iff_ne]; omega, e2⟩, ?_⟩
          · rw [h0', beq_eq_false_iff_ne]
            intro e
            apply hc
            apply UInt8.toNat_inj.1
            have e45 : (45 : UInt8).toNat = 45 := rfl
            omega
          · rw [hi0, hs', e2]; rfl
  have HLen : Hid (20 < Y.size → numP s = none) := Lib.hid fun h => numP_not_long (by omega)
  have HCase := Lib.hid hcase
  clear hget hYs hY hs hi0 hdig hcase hD hLO hsg hi1
  go_enter Tryz.func26, Tryz.ntmps26
  rcases HCase.out with ⟨h1, h3, rfl⟩ | ⟨h1, h2, h4, h3, rfl⟩ | ⟨h1, h2, ⟨h4, rfl⟩, rfl⟩ | ⟨h1, h2, ⟨h4, rfl⟩, rfl⟩
  · have H3 := Lib.hid h3
    clear h3
    go_wp2
    go_ret2
    exact ⟨_, _, rfl, by simp, fun _ => numP_not_empty H3.out, rfl⟩
  · have H3 := Lib.hid h3
    clear h3
    go_wp2
    go_ret2
    exact ⟨_, _, rfl, by simp, fun _ => numP_not_empty H3.out, rfl⟩
  all_goals
    clear HCase
    by_cases h20 : (20 : Int) < (Y.size : Int)
    · have HL := Lib.hid (HLen.out (by omega))
      go_wp2
      go_ret2
      exact ⟨_, _, rfl, by simp, fun _ => HL.out, rfl⟩
    · have h20' : (Y.size : Int) ≤ 20 := by omega
      have h20d : decide ((20 : Int) < (Y.size : Int)) = false := decide_eq_false h20
      have h20e : decide (20 < Y.size) = false := decide_eq_false (by omega)
      clear h20
      go_wp2
      go_loopw [4, 6] (fun nv iv wr => ∃ j : Nat, iv = .int .i64 j ∧ LO j ∧ j ≤ Y.size ∧ nv = .int .i64 (wrap64 (valD (D j) : Int)) ∧ (∀ c ∈ D j, isD c) ∧ wr = w) (fun _ iv _ => Y.size - (intOf iv).toNat)
      case atStart =>
        first
        | exact ⟨0, rfl, HD0.out.2, by omega, by rw [HD0.out.1, wrap_nil], by rw [HD0.out.1]; simp, rfl⟩
        | exact ⟨1, rfl, HD0.out.2, by omega, by rw [HD0.out.1, wrap_nil], by rw [HD0.out.1]; simp, rfl⟩
      case round =>
        obtain ⟨j, rfl, hlo, hjl, rfl, hall, rfl⟩ := hrel
        rcases Nat.lt_or_ge j Y.size with hlt | hge
        · have hjI : (j : Int) < (Y.size : Int) := by omega
          obtain ⟨d1, d2, d3⟩ := HD1.out j hlo hlt
          have hgj := HGet.out j hlt
          rw [← hgj] at d1 d3
          have D1 := Lib.hid d1
          have D3 := Lib.hid d3
          obtain ⟨V, hV⟩ : ∃ V : Nat, V = valD (D j) := ⟨_, rfl⟩
          rw [← hV]
          have HV := Lib.hid hV
          have HAll := Lib.hid hall
          obtain ⟨x, hx⟩ : ∃ x : Int, x = wrap64 (V : Int) := ⟨_, rfl⟩
          rw [← hx]
          have HX := Lib.hid hx
          have hxr := wrap_range (V : Int)
          rw [← hx] at hxr
          have D2 := Lib.hid d2
          clear d1 d2 d3 hgj hV hall hx hlo
          by_cases hb1 : ((((Y[j]'hlt).toNat : Nat) : Int) < 48)
          · have HN := Lib.hid (numP_not_digit D3.out (fun c => by unfold isD at c; omega))
            go_wp2
            go_ret2
            exact ⟨_, _, rfl, by simp, fun _ => HN.out, rfl⟩
          · have hb1' : (48 : Int) ≤ (((Y[j]'hlt).toNat : Nat) : Int) := by omega
            have hb1d : decide ((((Y[j]'hlt).toNat : Nat) : Int) < 48) = false := decide_eq_false hb1
            clear hb1
            by_cases hb2 : (57 : Int) < (((Y[j]'hlt).toNat : Nat) : Int)
            · have HN := Lib.hid (numP_not_digit D3.out (fun c => by unfold isD at c; omega))
              go_wp2
              go_ret2
              exact ⟨_, _, rfl, by simp, fun _ => HN.out, rfl⟩
            · have hb2' : (((Y[j]'hlt).toNat : Nat) : Int) ≤ 57 := by omega
              have hb2d : decide ((57 : Int) < (((Y[j]'hlt).toNat : Nat) : Int)) = false := decide_eq_false hb2
              clear hb2
              have hval : Hid (Value.int .i64 (wrap64 (wrap64 (wrap64 (x * 10) + (((Y[j]'hlt).toNat : Nat) : Int)) - 48)) = .int .i64 (wrap64 ((valD (D (j + 1)) : Nat) : Int))) := Lib.hid (by
                rw [HX.out, wrap_step, D1.out, valD_snoc, ← HV.out]
                congr 2
                omega)
              have hdigs : Hid (∀ c ∈ D (j + 1), isD c) := Lib.hid fun c hc => by
                rw [D1.out] at hc
                rcases List.mem_append.1 hc with h | h
                · exact HAll.out c h
                · rw [List.mem_singleton] at h
                  rw [h]; unfold isD; omega
              go_wp2
              go_roundw
              case rel => exact ⟨j + 1, by go_num, D2.out, by omega, hval.out, hdigs.out, trivial⟩
              case measure => simp only [intOf]; omega
        · obtain rfl : j = Y.size := by omega
          rw [HD2.out] at hall ⊢
          have hjd : decide ((Y.size : Int) < (Y.size : Int)) = false := by simp
          have hjd2 : decide (Y.size < Y.size) = false := by simp
          obtain ⟨x, hx⟩ : ∃ x : Int, x = wrap64 (valD (digitsOf s) : Int) := ⟨_, rfl⟩
          rw [← hx]
          have hxr := wrap_range (valD (digitsOf s) : Int)
          rw [← hx] at hxr
          have HX := Lib.hid hx
          obtain ⟨n, hn, hn2⟩ : ∃ n : Int, (n = x ∧ signed s = false ∨ n = wrap64 (-x) ∧ signed s = true) ∧ n = IntKind.i64.wrap (if signed s = true then -(IntKind.i64.wrap (valD (digitsOf s) : Int)) else (IntKind.i64.wrap (valD (digitsOf s) : Int))) := by
            rw [wrap_is, wrap_is, ← hx, ← HSg.out]
            first
            | exact ⟨wrap64 (-x), .inr ⟨rfl, rfl⟩, by rw [if_pos rfl]⟩
            | exact ⟨x, .inl ⟨rfl, rfl⟩, by
                rw [if_neg (by decide)]
                unfold wrap64
                omega⟩
          have hnr : -9223372036854775808 ≤ n ∧ n ≤ 9223372036854775807 := by
            rcases hn with ⟨h, _⟩ | ⟨h, _⟩
            · rw [h]; exact hxr
            · rw [h]; exact wrap_range _
          have HRec := Lib.hid (numP_reckoned s n hn2 hnr.1 hnr.2)
          have HDg := Lib.hid (rdigits_all n hnr.1 hnr.2 wr)
          obtain ⟨Z, hZ⟩ : ∃ Z : ByteArray, Z = ⟨(Lib.itoa n).toArray⟩ := ⟨_, rfl⟩
          rw [← hZ] at HDg
          have hfin : Hid (DNumRes s wr (.returned (.tuple #[.int .i64 n, .bool (Z.toList == Y.toList)])) wr) := Lib.hid (by
            refine ⟨n, _, rfl, fun e => ?_, fun e => ?_, rfl⟩
            · have e' : Z.toList = Y.toList := eq_of_beq e
              rw [ByteArray.toList_eq, ByteArray.toList_eq, hZ, HY.out] at e'
              exact HRec.out.1 e'
            · refine HRec.out.2 fun h => ?_
              have e' : Z.toList = Y.toList := by rw [ByteArray.toList_eq, ByteArray.toList_eq, hZ, HY.out]; exact h
              rw [e'] at e
              simp at e)
          rcases hn with ⟨h, hsf⟩ | ⟨h, hsf⟩
          all_goals
            rw [← HSg.out] at hsf
          all_goals
            first
            | exact absurd hsf (by decide)
            | (subst h
               clear hn2 hnr hZ hx hall hsf hxr
               go_wp2_with fail
               refine HDg.out.mono ?_
               rintro e w1 ⟨rfl, hw⟩
               subst hw
               go_wp2
               go_ret2
               exact hfin.out)
end Go.Proofs.YtalnepcbaegaeaaGreatDoor
