/- PLAIN LAW: the document reads a number (no program in sight). WALK: the document's Number. WALK: the document's Words. -/
import Derived.Test.YtfejlkgddnamoaaGreatDoorBkTexts
import Derived.Lib.AtoiAllCases
import Derived.Test.YtfejlkgddnamoaaGreatDoorBkDoc
import Derived.Laws.Concat
import Derived.OwnWalk
import Derived.Maps.AppendAt
import Derived.RangeFuncBox
import Derived.Laws.OwnMore
set_option linter.unusedVariables false
set_option linter.unusedSimpArgs false
section
namespace NumPlain
open Go.Lib

/-- the value of digits -/
def valD (l : List UInt8) : Nat := l.foldl (fun n c => n * 10 + (c.toNat - 48)) 0
theorem valD_snoc (l : List UInt8) (c : UInt8) : valD (l ++ [c]) = valD l * 10 + (c.toNat - 48) := by simp [valD]
theorem valD_dec (u : Nat) : valD (decDigits u) = u := by
  rw [decDigits]
  by_cases hu : u < 10
  · rw [dif_pos hu]
    show 0 * 10 + ((UInt8.ofNat (48 + u)).toNat - 48) = u
    rw [digit_nat hu]; omega
  · rw [dif_neg hu, valD_snoc, valD_dec (u / 10), digit_nat (Nat.mod_lt _ (by decide))]
    omega
termination_by u
theorem dec_len : ∀ (k u : Nat), 0 < k → u < 10 ^ k → (decDigits u).length ≤ k
  | 0, _, h, _ => absurd h (by omega)
  | k + 1, u, _, h => by
    rw [decDigits]
    by_cases hu : u < 10
    · rw [dif_pos hu]; simp
    · rw [dif_neg hu, List.length_append]
      rcases Nat.eq_zero_or_pos k with h0 | h0
      · subst h0; simp at h; omega
      · have := dec_len k (u / 10) h0 (by rw [Nat.pow_succ] at h; omega)
        simp; omega
/-- the sign and the digits -/
def signed (s : List UInt8) : Bool := s.head? == some 45
def digitsOf (s : List UInt8) : List UInt8 := if signed s then s.drop 1 else s
def isD (c : UInt8) : Prop := 48 ≤ c.toNat ∧ c.toNat ≤ 57
theorem dec_head (u : Nat) : ∃ c r, decDigits u = c :: r ∧ 48 ≤ c.toNat ∧ c.toNat ≤ 57 := by
  cases h : decDigits u with
  | nil => exact absurd h (dec_ne u)
  | cons c r => exact ⟨c, r, rfl, dec_digits u c (by rw [h]; simp)⟩
/-- what is written as a number has that form -/
theorem numP_form {s : List UInt8} {v : Int} (h : numP s = some v) : signed s = decide (v < 0) ∧ digitsOf s ≠ [] ∧ s.length ≤ 20 ∧ (∀ c ∈ digitsOf s, isD c) ∧ valD (digitsOf s) = v.natAbs ∧ -9223372036854775808 ≤ v ∧ v ≤ 9223372036854775807 := by
  obtain ⟨hs, ha⟩ := numP_some h
  obtain ⟨b0, b1⟩ := atoiAll_bounds ha
  have hl : (decDigits v.natAbs).length ≤ 19 := dec_len 19 _ (by decide) (by
    have : v.natAbs ≤ 9223372036854775808 := by omega
    exact Nat.lt_of_le_of_lt this (by decide))
  by_cases hn : v < 0
  · have e : s = 45 :: decDigits v.natAbs := by rw [hs]; unfold itoa; rw [if_pos hn]
    have hsg : signed s = true := by rw [e]; rfl
    have hd : digitsOf s = decDigits v.natAbs := by unfold digitsOf; rw [if_pos hsg, e]; rfl
    refine ⟨by rw [hsg]; simp [hn], by rw [hd]; exact dec_ne _, by rw [e]; simp; omega, by rw [hd]; exact dec_digits _, by rw [hd]; exact valD_dec _, b0, b1⟩
  · have e : s = decDigits v.natAbs := by rw [hs]; unfold itoa; rw [if_neg hn]; congr 1; omega
    obtain ⟨c, r, hc, h0, h1⟩ := dec_head v.natAbs
    have hsg : signed s = false := by
      rw [e, hc]
      show (some c == some 45) = false
      rw [beq_eq_false_iff_ne]
      intro h
      have := Option.some.inj h
      rw [this] at h0
      exact absurd h0 (by decide)
    have hd : digitsOf s = decDigits v.natAbs := by unfold digitsOf; rw [hsg]; exact e
    refine ⟨by rw [hsg]; simp [hn], by rw [hd]; exact dec_ne _, by rw [e]; omega, by rw [hd]; exact dec_digits _, by rw [hd]; exact valD_dec _, b0, b1⟩
theorem numP_not_empty {s : List UInt8} (h : digitsOf s = []) : numP s = none := by
  cases hn : numP s with
  | none => rfl
  | some v => exact absurd h (numP_form hn).2.1
theorem numP_not_long {s : List UInt8} (h : 20 < s.length) : numP s = none := by
  cases hn : numP s with
  | none => rfl
  | some v => have := (numP_form hn).2.2.1; omega
theorem numP_not_digit {s : List UInt8} {c : UInt8} (h : c ∈ digitsOf s) (hc : ¬ isD c) : numP s = none := by
  cases hn : numP s with
  | none => rfl
  | some v => exact absurd ((numP_form hn).2.2.2.1 c h) hc
/-- the number as the document reckons it, modulo the machine's word -/
theorem numP_reckoned (s : List UInt8) (n : Int) (hn : n = Go.IntKind.i64.wrap (if signed s = true then -(Go.IntKind.i64.wrap (valD (digitsOf s) : Int)) else (Go.IntKind.i64.wrap (valD (digitsOf s) : Int)))) (h0 : -9223372036854775808 ≤ n) (h1 : n ≤ 9223372036854775807) :
    (itoa n = s → numP s = some n) ∧ (itoa n ≠ s → numP s = none) := by
  refine ⟨fun h => by rw [← h]; exact numP_itoa n h0 h1, fun h => ?_⟩
  cases hp : numP s with
  | none => rfl
  | some v =>
    exfalso
    obtain ⟨f1, _, _, _, f5, f6, f7⟩ := numP_form hp
    apply h
    have hv : n = v := by
      rw [hn, f5, f1]
      by_cases hv : v < 0
      · simp [hv, Go.IntKind.wrap, Go.IntKind.bits, Go.IntKind.signed]
        omega
      · simp [hv, Go.IntKind.wrap, Go.IntKind.bits, Go.IntKind.signed]
        omega
    rw [hv]
    exact (numP_some hp).1.symm
end NumPlain
end

section
namespace Go.Proofs.YtfejlkgddnamoaaGreatDoor
open Go Go.RowKit BookPlain NumPlain

theorem itoa_min : Lib.itoa (-9223372036854775808) = [45, 57, 50, 50, 51, 51, 55, 50, 48, 51, 54, 56, 53, 52, 55, 55, 53, 56, 48, 56] := by
  unfold Lib.itoa
  rw [if_pos (by decide)]
  simp [Lib.decDigits]
theorem rdigits_all (n : Int) (h0 : -9223372036854775808 ≤ n) (h1 : n ≤ 9223372036854775807) (w : World) :
    Calls Tryz.prog 57 #[.int .i64 n] w fun e w' => e = .returned (.string ⟨(Lib.itoa n).toArray⟩) ∧ w' = w := by
  by_cases h : n = -9223372036854775808
  · subst h
    rw [itoa_min]
    go_enter Tryz.func57, Tryz.ntmps57
    go_wp2
    go_ret
    exact ⟨rfl, rfl⟩
  · exact rdigits_any n (by omega) h1 w
theorem wrap_step (a c : Int) : wrap64 (wrap64 (wrap64 (wrap64 a * 10) + c) - 48) = wrap64 (a * 10 + c - 48) := by
  unfold wrap64
  omega
theorem wrap_nil : wrap64 ((valD [] : Nat) : Int) = 0 := by simp [valD, wrap64]
theorem wrap_is (x : Int) : IntKind.i64.wrap x = wrap64 x := by
  simp only [IntKind.wrap, IntKind.bits, IntKind.signed, wrap64]
  simp
  split <;> omega
theorem wrap_range (x : Int) : -9223372036854775808 ≤ wrap64 x ∧ wrap64 x ≤ 9223372036854775807 := by unfold wrap64; omega
theorem take_drop_snoc (s : List UInt8) (i j : Nat) (h : i ≤ j) (hj : j < s.length) : (s.take (j + 1)).drop i = (s.take j).drop i ++ [s.getD j 0] := by
  rw [List.take_add_one, List.getElem?_eq_getElem hj, List.drop_append_of_le_length (by rw [List.length_take]; omega), List.getD_eq_getElem?_getD, List.getElem?_eq_getElem hj]
  rfl
def DNumRes (s : List UInt8) (w : World) (e : Ending) (w' : World) : Prop :=
  ∃ v b, e = .returned (.tuple #[.int .i64 v, .bool b]) ∧ (b = true → numP s = some v) ∧ (b = false → numP s = none) ∧ w' = w
set_option maxRecDepth 100000 in
set_option maxHeartbeats 4000000 in
theorem rnumber_any (s : List UInt8) (hs : s.length ≤ 4000000000) (w : World) : Calls Tryz.prog 84 #[.string ⟨s.toArray⟩] w fun e w' => DNumRes s w e w' := by
  obtain ⟨Y, hY⟩ : ∃ Y : ByteArray, Y = ⟨s.toArray⟩ := ⟨_, rfl⟩
  have hYs : Y.size = s.length := by rw [hY]; simp [ByteArray.size]
  rw [← hY]
  have hget : ∀ j (hj : j < Y.size), Y[j]'hj = s.getD j 0 := fun j hj => by
    subst hY
    rw [List.getD_eq_getElem?_getD, List.getElem?_eq_getElem (by omega)]
    rfl
  have HGet := Lib.hid hget
  have HYs := Lib.hid hYs
  have HY := Lib.hid hY
  have hsz : Y.size ≤ 4000000000 := by omega
  obtain ⟨i0, hi0⟩ : ∃ i0 : Nat, i0 = if signed s = true then 1 else 0 := ⟨_, rfl⟩
  have hdig : digitsOf s = s.drop i0 := by
    rw [hi0]; unfold digitsOf
    by_cases h : signed s = true
    · rw [if_pos h, if_pos h]
    · rw [if_neg h, if_neg h]; rfl
  have hi1 : i0 ≤ 1 := by rw [hi0]; split <;> omega
  obtain ⟨D, hD⟩ : ∃ D : Nat → List UInt8, D = fun j => (s.take j).drop i0 := ⟨_, rfl⟩
  obtain ⟨LO, hLO⟩ : ∃ LO : Nat → Prop, LO = fun j => i0 ≤ j := ⟨_, rfl⟩
  have HD0 : Hid (D i0 = [] ∧ LO i0) := Lib.hid ⟨by rw [hD]; simp, by rw [hLO]; exact Nat.le_refl i0⟩
  have HD1 : Hid (∀ j, LO j → j < Y.size → D (j + 1) = D j ++ [s.getD j 0] ∧ LO (j + 1) ∧ s.getD j 0 ∈ digitsOf s) := Lib.hid fun j h1 h2 => by
    rw [hLO] at h1 ⊢
    rw [hD]
    refine ⟨take_drop_snoc s i0 j h1 (by omega), Nat.le_succ_of_le h1, ?_⟩
    rw [hdig, List.getD_eq_getElem?_getD, List.getElem?_eq_getElem (by omega)]
    show s[j]'(by omega) ∈ s.drop i0
    rw [List.mem_drop_iff_getElem]
    exact ⟨j - i0, by omega, by congr 1; omega⟩
  have HD2 : Hid (D Y.size = digitsOf s) := Lib.hid (by rw [hD, hdig, hYs]; simp)
  obtain ⟨sg, hsg⟩ : ∃ b, b = signed s := ⟨_, rfl⟩
  have HSg := Lib.hid hsg
  have hcase : (Y.size = 0 ∧ digitsOf s = [] ∧ i0 = 0) ∨ (∃ h : 0 < Y.size, ((((Y[0]'h).toNat : Nat) : Int) == 45) = true ∧ Y.size = 1 ∧ digitsOf s = [] ∧ i0 = 1) ∨
      (∃ h : 0 < Y.size, ((((Y[0]'h).toNat : Nat) : Int) == 45) = true ∧ (((Y.size : Int) == 1) = false ∧ sg = true) ∧ i0 = 1) ∨ (∃ h : 0 < Y.size, ((((Y[0]'h).toNat : Nat) : Int) == 45) = false ∧ (((Y.size : Int) == 0) = false ∧ sg = false) ∧ i0 = 0) := by
    rw [hsg]
    rcases Nat.eq_zero_or_pos Y.size with h | h
    · left
      have : s = [] := List.eq_nil_of_length_eq_zero (by omega)
      refine ⟨h, by rw [this]; rfl, ?_⟩
      rw [hi0, this]; rfl
    · right
      have h0 := hget 0 h
      cases hs' : s with
      | nil => rw [hs'] at hYs; have h3 : Y.size = 0 := hYs; omega
      | cons c r =>
        rw [hs'] at h0
        have h0' : Y[0]'h = c := h0
        by_cases hc : c = 45
        · have e1 : i0 = 1 := by rw [hi0, hs', hc]; rfl
          have e2 : signed (c :: r) = true := by rw [hc]; rfl
          have e3 : ((((Y[0]'h).toNat : Nat) : Int) == 45) = true := by rw [h0', hc]; rfl
          by_cases h1 : Y.size = 1
          · left
            refine ⟨h, e3, h1, ?_, e1⟩
            have hr : r = [] := by
              rw [hs'] at hYs
              have h3 : Y.size = r.length + 1 := hYs
              exact List.eq_nil_of_length_eq_zero (by omega)
            rw [hr, hc]; rfl
          · right; left
            exact ⟨h, e3, ⟨by rw [beq_eq_false_iff_ne]; omega, e2⟩, e1⟩
        · right; right
          have e2 : signed (c :: r) = false := by simp [signed, hc]
          refine ⟨h, ?_, ⟨by rw [beq_eq_false_iff_ne]; omega, e2⟩, ?_⟩
          · rw [h0', beq_eq_false_iff_ne]
            intro e
            apply hc
            apply UInt8.toNat_inj.1
            have e45 : (45 : UInt8).toNat = 45 := rfl
            omega
          · rw [hi0, hs', e2]; rfl
  have HLen : Hid (20 < Y.size → numP s = none) := Lib.hid fun h => numP_not_long (by omega)
  have HCase := Lib.hid hcase
  clear hget hYs hY hs hi0 hdig hcase hD hLO hsg hi1
  go_enter Tryz.func84, Tryz.ntmps84
  rcases HCase.out with ⟨h1, h3, rfl⟩ | ⟨h1, h2, h4, h3, rfl⟩ | ⟨h1, h2, ⟨h4, rfl⟩, rfl⟩ | ⟨h1, h2, ⟨h4, rfl⟩, rfl⟩
  · have H3 := Lib.hid h3
    clear h3
    go_wp2
    go_ret2
    exact ⟨_, _, rfl, by simp, fun _ => numP_not_empty H3.out, rfl⟩
  · have H3 := Lib.hid h3
    clear h3
    go_wp2
    go_ret2
    exact ⟨_, _, rfl, by simp, fun _ => numP_not_empty H3.out, rfl⟩
  all_goals
    clear HCase
    by_cases h20 : (20 : Int) < (Y.size : Int)
    · have HL := Lib.hid (HLen.out (by omega))
      go_wp2
      go_ret2
      exact ⟨_, _, rfl, by simp, fun _ => HL.out, rfl⟩
    · have h20' : (Y.size : Int) ≤ 20 := by omega
      have h20d : decide ((20 : Int) < (Y.size : Int)) = false := decide_eq_false h20
      have h20e : decide (20 < Y.size) = false := decide_eq_false (by omega)
      clear h20
      go_wp2
      go_loopw [4, 6] (fun nv iv wr => ∃ j : Nat, iv = .int .i64 j ∧ LO j ∧ j ≤ Y.size ∧ nv = .int .i64 (wrap64 (valD (D j) : Int)) ∧ (∀ c ∈ D j, isD c) ∧ wr = w) (fun _ iv _ => Y.size - (intOf iv).toNat)
      case atStart =>
        first
        | exact ⟨0, rfl, HD0.out.2, by omega, by rw [HD0.out.1, wrap_nil], by rw [HD0.out.1]; simp, rfl⟩
        | exact ⟨1, rfl, HD0.out.2, by omega, by rw [HD0.out.1, wrap_nil], by rw [HD0.out.1]; simp, rfl⟩
      case round =>
        obtain ⟨j, rfl, hlo, hjl, rfl, hall, rfl⟩ := hrel
        rcases Nat.lt_or_ge j Y.size with hlt | hge
        · have hjI : (j : Int) < (Y.size : Int) := by omega
          obtain ⟨d1, d2, d3⟩ := HD1.out j hlo hlt
          have hgj := HGet.out j hlt
          rw [← hgj] at d1 d3
          have D1 := Lib.hid d1
          have D3 := Lib.hid d3
          obtain ⟨V, hV⟩ : ∃ V : Nat, V = valD (D j) := ⟨_, rfl⟩
          rw [← hV]
          have HV := Lib.hid hV
          have HAll := Lib.hid hall
          obtain ⟨x, hx⟩ : ∃ x : Int, x = wrap64 (V : Int) := ⟨_, rfl⟩
          rw [← hx]
          have HX := Lib.hid hx
          have hxr := wrap_range (V : Int)
          rw [← hx] at hxr
          have D2 := Lib.hid d2
          clear d1 d2 d3 hgj hV hall hx hlo
          by_cases hb1 : ((((Y[j]'hlt).toNat : Nat) : Int) < 48)
          · have HN := Lib.hid (numP_not_digit D3.out (fun c => by unfold isD at c; omega))
            go_wp2
            go_ret2
            exact ⟨_, _, rfl, by simp, fun _ => HN.out, rfl⟩
          · have hb1' : (48 : Int) ≤ (((Y[j]'hlt).toNat : Nat) : Int) := by omega
            have hb1d : decide ((((Y[j]'hlt).toNat : Nat) : Int) < 48) = false := decide_eq_false hb1
            clear hb1
            by_cases hb2 : (57 : Int) < (((Y[j]'hlt).toNat : Nat) : Int)
            · have HN := Lib.hid (numP_not_digit D3.out (fun c => by unfold isD at c; omega))
              go_wp2
              go_ret2
              exact ⟨_, _, rfl, by simp, fun _ => HN.out, rfl⟩
            · have hb2' : (((Y[j]'hlt).toNat : Nat) : Int) ≤ 57 := by omega
              have hb2d : decide ((57 : Int) < (((Y[j]'hlt).toNat : Nat) : Int)) = false := decide_eq_false hb2
              clear hb2
              have hval : Hid (Value.int .i64 (wrap64 (wrap64 (wrap64 (x * 10) + (((Y[j]'hlt).toNat : Nat) : Int)) - 48)) = .int .i64 (wrap64 ((valD (D (j + 1)) : Nat) : Int))) := Lib.hid (by
                rw [HX.out, wrap_step, D1.out, valD_snoc, ← HV.out]
                congr 2
                omega)
              have hdigs : Hid (∀ c ∈ D (j + 1), isD c) := Lib.hid fun c hc => by
                rw [D1.out] at hc
                rcases List.mem_append.1 hc with h | h
                · exact HAll.out c h
                · rw [List.mem_singleton] at h
                  rw [h]; unfold isD; omega
              go_wp2
              go_roundw
              case rel => exact ⟨j + 1, by go_num, D2.out, by omega, hval.out, hdigs.out, trivial⟩
              case measure => simp only [intOf]; omega
        · obtain rfl : j = Y.size := by omega
          rw [HD2.out] at hall ⊢
          have hjd : decide ((Y.size : Int) < (Y.size : Int)) = false := by simp
          have hjd2 : decide (Y.size < Y.size) = false := by simp
          obtain ⟨x, hx⟩ : ∃ x : Int, x = wrap64 (valD (digitsOf s) : Int) := ⟨_, rfl⟩
          rw [← hx]
          have hxr := wrap_range (valD (digitsOf s) : Int)
          rw [← hx] at hxr
          have HX := Lib.hid hx
          obtain ⟨n, hn, hn2⟩ : ∃ n : Int, (n = x ∧ signed s = false ∨ n = wrap64 (-x) ∧ signed s = true) ∧ n = IntKind.i64.wrap (if signed s = true then -(IntKind.i64.wrap (valD (digitsOf s) : Int)) else (IntKind.i64.wrap (valD (digitsOf s) : Int))) := by
            rw [wrap_is, wrap_is, ← hx, ← HSg.out]
            first
            | exact ⟨wrap64 (-x), .inr ⟨rfl, rfl⟩, by rw [if_pos rfl]⟩
            | exact ⟨x, .inl ⟨rfl, rfl⟩, by
                rw [if_neg (by decide)]
                unfold wrap64
                omega⟩
          have hnr : -9223372036854775808 ≤ n ∧ n ≤ 9223372036854775807 := by
            rcases hn with ⟨h, _⟩ | ⟨h, _⟩
            · rw [h]; exact hxr
            · rw [h]; exact wrap_range _
          have HRec := Lib.hid (numP_reckoned s n hn2 hnr.1 hnr.2)
          have HDg := Lib.hid (rdigits_all n hnr.1 hnr.2 wr)
          obtain ⟨Z, hZ⟩ : ∃ Z : ByteArray, Z = ⟨(Lib.itoa n).toArray⟩ := ⟨_, rfl⟩
          rw [← hZ] at HDg
          have hfin : Hid (DNumRes s wr (.returned (.tuple #[.int .i64 n, .bool (Z.toList == Y.toList)])) wr) := Lib.hid (by
            refine ⟨n, _, rfl, fun e => ?_, fun e => ?_, rfl⟩
            · have e' : Z.toList = Y.toList := eq_of_beq e
              rw [ByteArray.toList_eq, ByteArray.toList_eq, hZ, HY.out] at e'
              exact HRec.out.1 e'
            · refine HRec.out.2 fun h => ?_
              have e' : Z.toList = Y.toList := by rw [ByteArray.toList_eq, ByteArray.toList_eq, hZ, HY.out]; exact h
              rw [e'] at e
              simp at e)
          rcases hn with ⟨h, hsf⟩ | ⟨h, hsf⟩
          all_goals
            rw [← HSg.out] at hsf
          all_goals
            first
            | exact absurd hsf (by decide)
            | (subst h
               clear hn2 hnr hZ hx hall hsf hxr
               go_wp2_with fail
               refine HDg.out.mono ?_
               rintro e w1 ⟨rfl, hw⟩
               subst hw
               go_wp2
               go_ret2
               exact hfin.out)
end Go.Proofs.YtfejlkgddnamoaaGreatDoor
end

section
namespace Go.Proofs.YtfejlkgddnamoaaGreatDoor
open Go Go.RowKit BookPlain SpPlain

theorem strInfo : (Tryz.prog.info? 9).map (fun i => (i.zero, i.size, i.bytes)) = some (some (.string ByteArray.empty), 1, 16) := by kernel_rfl
def strV (x : List UInt8) : Value := .string ⟨x.toArray⟩
theorem split_step (s : List UInt8) (f i : Nat) (hf : f ≤ i) (hi : i < s.length) (h : s.getD i 0 = 32) (hno : (32 : UInt8) ∉ (s.take i).drop f) : splitSp (s.drop f) = (s.take i).drop f :: splitSp (s.drop (i + 1)) := by
  have e : s.drop f = (s.take i).drop f ++ 32 :: s.drop (i + 1) := by
    conv => lhs; rw [← List.take_append_drop i s]
    rw [List.drop_append_of_le_length (by rw [List.length_take]; omega), List.drop_eq_getElem_cons hi]
    congr 2
    rw [List.getD_eq_getElem?_getD, List.getElem?_eq_getElem hi] at h
    exact h
  rw [e, splitSp_cut _ _ hno]
theorem not_more (s : List UInt8) (f i : Nat) (hf : f ≤ i) (hi : i < s.length) (h : s.getD i 0 ≠ 32) (hno : (32 : UInt8) ∉ (s.take i).drop f) : (32 : UInt8) ∉ (s.take (i + 1)).drop f := by
  have e : (s.take (i + 1)).drop f = (s.take i).drop f ++ [s.getD i 0] := by
    rw [List.take_add_one, List.getElem?_eq_getElem hi, List.drop_append_of_le_length (by rw [List.length_take]; omega), List.getD_eq_getElem?_getD, List.getElem?_eq_getElem hi]
    rfl
  rw [e]
  intro m
  rcases List.mem_append.1 m with m | m
  · exact hno m
  · rw [List.mem_singleton] at m; exact h m.symm
/-- rows of words of the call's own -/
def WOwn (w : World) (B : Nat) (v : Value) (ws : List (List UInt8)) : Prop := w.ownsRow B 9 1 v ws.length (ws.map strV)
def WRes (s : List UInt8) (w : World) (e : Ending) (w' : World) : Prop :=
  ∃ g c, e = .returned (.slice (some ⟨g, 0, none⟩) (splitSp s).length c) ∧ (∀ i, i < (splitSp s).length → w'.cell? ⟨g, i, none⟩ = some (strV ((splitSp s).getD i []))) ∧ Below w.heap.size w w'
theorem WOwn.snoc {w : World} {B : Nat} {v : Value} {ws : List (List UInt8)} {x : List UInt8} {k : Nat} {u : Value} (hu : u = strV x) (hk : k = ws.length) (h : w.ownsRow B 9 1 v (k + 1) (ws.map strV ++ [u])) : (∃ a c, v = .slice a (ws.length + 1) c) ∧ WOwn w B v (ws ++ [x]) := by
  subst hu hk
  have e : (ws ++ [x]).length = ws.length + 1 := by simp
  refine ⟨?_, ?_⟩
  · obtain ⟨g, cap, hv⟩ := ownsRow_succ h
    exact ⟨_, cap, hv⟩
  · unfold WOwn
    rw [e, List.map_append]
    exact h
theorem wgrown {w w' : World} {r : Option Nat} {B : Nat} (h : w.grownBy w' r) (hB : B ≤ w.heap.size) (hr : ∀ k, r = some k → B ≤ k) : Below B w w' :=
  ⟨h.os, h.tape, h.output, h.size, fun k hk => h.block k (by omega) fun e => by have := hr k e.symm; omega⟩
set_option maxRecDepth 100000 in
set_option maxHeartbeats 4000000 in
theorem rwords_any (s : List UInt8) (hs : s.length ≤ 4000000) (w : World) : Calls Tryz.prog 56 #[.string ⟨s.toArray⟩] w fun e w' => WRes s w e w' := by
  obtain ⟨i0, hi0, hz0, hz1, hz2⟩ := info_parts strInfo
  obtain ⟨Y, hY⟩ : ∃ Y : ByteArray, Y = ⟨s.toArray⟩ := ⟨_, rfl⟩
  have hYs : Y.size = s.length := by rw [hY]; simp [ByteArray.size]
  have hsz : Y.size ≤ 4000000 := by omega
  rw [← hY]
  have HGet : Hid (∀ j (hj : j < Y.size), Y[j]'hj = s.getD j 0) := Lib.hid fun j hj => by
    subst hY
    rw [List.getD_eq_getElem?_getD, List.getElem?_eq_getElem (by omega)]
    rfl
  have HEx : Hid (∀ f i, f ≤ i → i ≤ Y.size → Value.string (Y.extract f i) = strV ((s.take i).drop f)) := Lib.hid fun f i h1 h2 => by
    unfold strV
    congr 1
    apply ByteArray.ext; apply Array.toList_inj.1
    rw [Lib.extract_data, hY]
    show (s.drop f).take (i - f) = (s.take i).drop f
    rw [List.drop_take]
  have HYs := Lib.hid hYs
  clear hY hYs hs
  go_enter Tryz.func56, Tryz.ntmps56
  go_wp2
  go_loopw [3, 4, 5] (fun lv fv iv wr => ∃ (i f : Nat) (ws : List (List UInt8)), iv = .int .i64 i ∧ fv = .int .i64 f ∧ i ≤ Y.size + 1 ∧ f ≤ Y.size + 1 ∧ ws.length ≤ i ∧ (i ≤ Y.size ∧ f ≤ i ∧ splitSp s = ws ++ splitSp (s.drop f) ∧ (32 : UInt8) ∉ (s.take i).drop f ∨ i = Y.size + 1 ∧ splitSp s = ws) ∧ (∃ a c, lv = .slice a ws.length c) ∧ WOwn wr w.heap.size lv ws ∧ Below w.heap.size w wr) (fun _ _ iv _ => Y.size + 1 - (intOf iv).toNat)
  case atStart => exact ⟨0, 0, [], rfl, rfl, by omega, by omega, by simp, .inl ⟨by omega, by omega, rfl, by simp⟩, ⟨none, 0, rfl⟩, World.ownsRow_nil _ _ _ _, Below.refl _ _⟩
  case round =>
    obtain ⟨i, f, ws, rfl, rfl, hi, hf, hwl, hcases, ⟨a, c, rfl⟩, hO, hB⟩ := hrel
    have HO := Lib.hid hO
    have HB := Lib.hid hB
    have hlt := World.ownsRow.lt hO
    have hbs := hB.size
    rcases hcases with ⟨hil, hfi, hsp, hno⟩ | ⟨rfl, hsp⟩
    · obtain ⟨k, hk⟩ : ∃ k, k = ws.length := ⟨_, rfl⟩
      rw [← hk] at hlt hwl ⊢
      have hO2 : wr.ownsRow w.heap.size 9 1 (.slice a k c) k (ws.map strV) := by
        have h := hO
        unfold WOwn at h
        rw [← hk] at h; exact h
      have HO2 := Lib.hid hO2
      have HK := Lib.hid hk
      have HLt := Lib.hid hlt
      have HSp := Lib.hid hsp
      have hiI : (i : Int) ≤ (Y.size : Int) := by omega
      have next : Hid (∀ (v' : Value) (w' : World), (wr.alloc (.cells #[.string (Y.extract f i)] 9)).grownBy w' (Value.slice a k c).ownBlock → w'.ownsRow w.heap.size 9 1 v' (k + 1) (ws.map strV ++ [.string (Y.extract f i)]) →
          (∃ a' c', v' = .slice a' (ws.length + 1) c') ∧ WOwn w' w.heap.size v' (ws ++ [(s.take i).drop f]) ∧ Below w.heap.size w w') := Lib.hid fun v' w' g o => by
        obtain ⟨h1, h2⟩ := WOwn.snoc (HEx.out f i hfi hil) HK.out o
        refine ⟨h1, h2, ?_⟩
        exact (HB.out.alloc HB.out.size _).trans (wgrown g (by simp; omega) (fun j hj => (HLt.out j hj).1))
      clear hO hB hO2 hlt hk hsp
      rcases Nat.lt_or_ge i Y.size with hlt2 | hge
      · have hne : ((i : Int) == (Y.size : Int)) = false := by rw [beq_eq_false_iff_ne]; omega
        have hiI2 : (i : Int) < (Y.size : Int) := by omega
        by_cases h32 : s.getD i 0 = 32
        · have hb : ((((Y[i]'hlt2).toNat : Nat) : Int) == 32) = true := by rw [HGet.out i hlt2, h32]; rfl
          have hst := split_step s f i hfi (by rw [← HYs.out]; exact hlt2) h32 hno
          have HSt : Hid (splitSp s = (ws ++ [(s.take i).drop f]) ++ splitSp (s.drop (i + 1))) := Lib.hid (by rw [HSp.out, hst]; simp)
          have hno2 : (32 : UInt8) ∉ (s.take (i + 1)).drop (i + 1) := by
            rw [List.drop_eq_nil_of_le (by rw [List.length_take]; omega)]; simp
          have HNo := Lib.hid hno2
          clear h32 hst hno hno2
          go_wp2_with (at_builtin; refine wpList_append_own _ rfl (.tmp 22) (.tmp 27) 90 rfl w.heap.size 9 i0 (.string ByteArray.empty) 1 16 Tryz.underlying90 hi0 hz0 hz1 hz2 rfl (by decide) (.slice a k c) k (ws.map strV) rfl (World.ownsRow.alloc HO2.out _) ⟨_, 0, none⟩ 1 1 [.string (Y.extract f i)] rfl rfl (cell_one_new _ _ _) (by simp [Value.oneCell']) (by unfold maxLen; omega) (by omega) (by simp; omega) ?_; intro v2 w2 o2 g2 _; obtain ⟨⟨a2, c2, hv2⟩, hw2, hb2⟩ := next.out v2 w2 g2 o2; subst hv2; have HW2 := Lib.hid hw2; have HB2 := Lib.hid hb2; clear o2 g2 hw2 hb2)
          go_roundw
          case rel => exact ⟨i + 1, i + 1, ws ++ [(s.take i).drop f], by go_num, by go_num, by omega, by omega, by have := HK.out; simp; omega, .inl ⟨by omega, by omega, HSt.out, HNo.out⟩, ⟨a2, c2, by simp⟩, HW2.out, HB2.out⟩
          case measure => simp only [intOf]; omega
        · have hb : ((((Y[i]'hlt2).toNat : Nat) : Int) == 32) = false := by
            rw [HGet.out i hlt2, beq_eq_false_iff_ne]
            intro e
            apply h32
            apply UInt8.toNat_inj.1
            have e32 : (32 : UInt8).toNat = 32 := rfl
            omega
          have HNo := Lib.hid (not_more s f i hfi (by rw [← HYs.out]; exact hlt2) h32 hno)
          clear h32 hno
          go_wp2
          go_roundw
          case rel => exact ⟨i + 1, f, ws, by go_num, rfl, by omega, by omega, by have := HK.out; omega, .inl ⟨by omega, by omega, HSp.out, HNo.out⟩, ⟨a, c, by rw [HK.out]⟩, (by have h := HO.out; rw [← HK.out] at h; exact h), HB.out⟩
          case measure => simp only [intOf]; omega
      · obtain rfl : i = Y.size := by omega
        have HSt : Hid (splitSp s = ws ++ [(s.take Y.size).drop f]) := Lib.hid (by
          rw [HSp.out]
          congr 1
          rw [HYs.out, List.take_length] at hno ⊢
          exact splitSp_no _ hno)
        clear hno
        go_wp2_with (at_builtin; refine wpList_append_own _ rfl (.tmp 22) (.tmp 27) 90 rfl w.heap.size 9 i0 (.string ByteArray.empty) 1 16 Tryz.underlying90 hi0 hz0 hz1 hz2 rfl (by decide) (.slice a k c) k (ws.map strV) rfl (World.ownsRow.alloc HO2.out _) ⟨_, 0, none⟩ 1 1 [.string (Y.extract f Y.size)] rfl rfl (cell_one_new _ _ _) (by simp [Value.oneCell']) (by unfold maxLen; omega) (by omega) (by simp; omega) ?_; intro v2 w2 o2 g2 _; obtain ⟨⟨a2, c2, hv2⟩, hw2, hb2⟩ := next.out v2 w2 g2 o2; subst hv2; have HW2 := Lib.hid hw2; have HB2 := Lib.hid hb2; clear o2 g2 hw2 hb2)
        go_roundw
        case rel => exact ⟨Y.size + 1, Y.size + 1, ws ++ [(s.take Y.size).drop f], by go_num, by go_num, by omega, by omega, by have := HK.out; simp; omega, .inr ⟨rfl, HSt.out⟩, ⟨a2, c2, by simp⟩, HW2.out, HB2.out⟩
        case measure => simp only [intOf]; omega
    · have hnot : decide (((Y.size + 1 : Nat) : Int) ≤ (Y.size : Int)) = false := decide_eq_false (by omega)
      have hnot2 : decide (Y.size + 1 ≤ Y.size) = false := decide_eq_false (by omega)
      have hnot3 : decide ((Y.size : Int) + 1 ≤ (Y.size : Int)) = false := decide_eq_false (by omega)
      have hres : Hid (WRes s w (.returned (.slice a ws.length c)) wr) := Lib.hid (by
        have hp := splitSp_pos s
        rw [hsp] at hp
        unfold WOwn at hO
        obtain ⟨n, hn⟩ : ∃ n, ws.length = n + 1 := ⟨ws.length - 1, by omega⟩
        have hO' := hO
        rw [hn] at hO'
        obtain ⟨g, cap, hv⟩ := ownsRow_succ hO'
        simp only [Value.slice.injEq] at hv
        obtain ⟨rfl, -, -⟩ := hv
        refine ⟨g, c, by rw [hsp], fun j hj => ?_, hB⟩
        rw [hsp] at hj ⊢
        have h := World.ownsRow.cellAt hO j (by omega)
        rw [h, List.getElem?_map, List.getElem?_eq_getElem hj, List.getD_eq_getElem?_getD, List.getElem?_eq_getElem hj]
        rfl)
      clear hO hB hlt hsp
      go_wp2
      go_ret
      exact hres.out
end Go.Proofs.YtfejlkgddnamoaaGreatDoor
end
