/- WALKS: the document's Sum, Digits. -/
import Derived.Test.YtfejlkgddnamoaaGreatDoorBkSum
import Derived.Lib.ItoaMem
set_option linter.unusedVariables false
set_option linter.unusedSimpArgs false
namespace Go.Proofs.YtfejlkgddnamoaaGreatDoor
open Go Go.RowKit BookPlain

theorem wrap64_nat (n : Nat) (h : n ≤ 9223372036854775807) : wrap64 (n : Int) = (n : Int) := by
  unfold wrap64
  omega
theorem decDigits_len (n : Nat) (h : n ≤ 9223372036854775807) : (Lib.decDigits n).length ≤ 20 := by
  have key : ∀ (k n : Nat), n < 10 ^ (k + 1) → (Lib.decDigits n).length ≤ k + 1 := by
    intro k
    induction k with
    | zero => intro n h; rw [Lib.decDigits_one (by omega)]; simp
    | succ k ih =>
      intro n h
      rcases Nat.lt_or_ge n 10 with c | c
      · rw [Lib.decDigits_one c]; simp
      · rw [Lib.decDigits, dif_neg (by omega), List.length_append]
        have := ih (n / 10) (by rw [Nat.pow_succ] at h; omega)
        simp; omega
  exact key 19 n (by omega)
theorem itoa_len (n : Int) (h0 : -9223372036854775807 ≤ n) (h1 : n ≤ 9223372036854775807) : (Lib.itoa n).length ≤ 21 := by
  unfold Lib.itoa
  split
  · have := decDigits_len n.natAbs (by omega); simp; omega
  · have := decDigits_len n.toNat (by omega); omega
set_option maxRecDepth 100000 in
set_option maxHeartbeats 2000000 in
theorem rdig_nat : ∀ (n : Nat), n ≤ 9223372036854775807 → ∀ w : World, Calls Tryz.prog 57 #[.int .i64 n] w fun e w' => e = .returned (.string ⟨(Lib.decDigits n).toArray⟩) ∧ w' = w := by
  intro n
  induction n using Nat.strongRecOn with
  | _ n ih =>
    intro hn w
    rcases Nat.lt_or_ge n 10 with hlt | hge
    · have hd : decide ((n : Int) < 0) = false := decide_eq_false (by omega)
      rw [Lib.decDigits_one hlt]
      have h10 : n = 0 ∨ n = 1 ∨ n = 2 ∨ n = 3 ∨ n = 4 ∨ n = 5 ∨ n = 6 ∨ n = 7 ∨ n = 8 ∨ n = 9 := by omega
      clear ih
      rcases h10 with rfl | rfl | rfl | rfl | rfl | rfl | rfl | rfl | rfl | rfl
      all_goals
        go_enter Tryz.func57, Tryz.ntmps57
        go_wp2
        go_ret
        exact ⟨rfl, rfl⟩
    · have h1 := ih (n / 10) (by omega) (by omega)
      have h2 := ih (n % 10) (by omega) (by omega)
      have hq : Int.tdiv (n : Int) 10 = ((n / 10 : Nat) : Int) := by rw [Int.tdiv_eq_ediv_of_nonneg (by omega)]; omega
      have hr : Int.tmod (n : Int) 10 = ((n % 10 : Nat) : Int) := by rw [Int.tmod_eq_emod_of_nonneg (by omega)]; omega
      have hd0 : decide ((n : Int) < 0) = false := decide_eq_false (by omega)
      have hd1 : decide ((n : Int) < 10) = false := decide_eq_false (by omega)
      have he : Lib.decDigits n = Lib.decDigits (n / 10) ++ Lib.decDigits (n % 10) := by
        rw [Lib.decDigits, dif_neg (by omega), Lib.decDigits_one (show n % 10 < 10 by omega)]
      have hcat := cat_run (P := Tryz.prog) ⟨(Lib.decDigits (n / 10)).toArray⟩ ⟨(Lib.decDigits (n % 10)).toArray⟩ ⟨(Lib.decDigits n).toArray⟩ (by simpa using he) (by rw [mk_size, mk_size]; have := decDigits_len (n / 10) (by omega); have := decDigits_len (n % 10) (by omega); omega)
      have w1 := wrap64_nat (n / 10) (by omega)
      have w2 := wrap64_nat (n % 10) (by omega)
      have HE := Lib.hid he
      have H1 := Lib.hid h1
      have H2 := Lib.hid h2
      clear ih he h1 h2
      generalize n / 10 = p at *
      generalize n % 10 = q at *
      go_enter Tryz.func57, Tryz.ntmps57
      go_wp2_with fail
      refine (H1.out w).mono ?_
      rintro e w1 ⟨rfl, rfl⟩
      go_wp2_with fail
      refine (H2.out _).mono ?_
      rintro e w1 ⟨rfl, rfl⟩
      go_wp2
      go_ret
      exact ⟨rfl, rfl⟩
theorem rdigits_any (n : Int) (h0 : -9223372036854775807 ≤ n) (h1 : n ≤ 9223372036854775807) (w : World) :
    Calls Tryz.prog 57 #[.int .i64 n] w fun e w' => e = .returned (.string ⟨(Lib.itoa n).toArray⟩) ∧ w' = w := by
  rcases Int.lt_or_le n 0 with h | h
  · obtain ⟨m, rfl⟩ : ∃ m : Nat, n = -(m : Int) := ⟨n.natAbs, by omega⟩
    have H := Lib.hid (rdig_nat m (by omega))
    have he : Lib.itoa (-(m : Int)) = [45] ++ Lib.decDigits m := Lib.itoa_neg m (by omega)
    have HE := Lib.hid he
    have hneg : -(-(m : Int)) = (m : Int) := by omega
    have hm : 0 < (m : Int) := by omega
    have hcat := cat_run (P := Tryz.prog) ⟨#[45]⟩ ⟨(Lib.decDigits m).toArray⟩ ⟨(Lib.itoa (-(m : Int))).toArray⟩ (by rw [he]) (by have e1 : (ByteArray.mk #[45]).size = 1 := rfl; rw [e1, mk_size]; have := decDigits_len m (by omega); omega)
    have w1 := wrap64_nat m (by omega)
    have hb : (-(m : Int) == -9223372036854775808) = false := by rw [beq_eq_false_iff_ne]; omega
    clear he
    go_enter Tryz.func57, Tryz.ntmps57
    go_wp2_with fail
    refine (H.out w).mono ?_
    rintro e w1 ⟨rfl, rfl⟩
    go_wp2
    go_ret
    exact ⟨rfl, rfl⟩
  · obtain ⟨m, rfl⟩ : ∃ m : Nat, n = (m : Int) := ⟨n.toNat, by omega⟩
    have := rdig_nat m (by omega) w
    rw [Lib.itoa_nonneg]
    exact this
set_option maxRecDepth 100000 in
set_option maxHeartbeats 2000000 in
theorem rsum_any (s : ByteArray) (w : World) (hs : s.size ≤ 2000000) :
    Calls Tryz.prog 102 #[.string s] w fun e w' => e = .returned (.int .i64 (sumB s.data.toList : Nat)) ∧ w' = w := by
  have hl : s.data.toList.length = s.size := (Lib.size_eq s).symm
  have hb : ∀ m, m ≤ s.size → sumFrom s.data.toList m ≤ 2000000 * (2000000 * 255) := fun m hm => by
    refine Nat.le_trans (sumFrom_le s.data.toList (s.size - m) m (by omega)) ?_
    rw [hl]
    exact Nat.mul_le_mul (by omega) (Nat.mul_le_mul (by omega) (Nat.le_refl _))
  have HB := Lib.hid hb
  have Hl := Lib.hid hl
  clear hb hl
  go_enter Tryz.func102, Tryz.ntmps102
  go_wp2
  go_loop [3, 4] (fun nv iv => ∃ (m : Nat) (j : Int), m ≤ s.size ∧ nv = .int .i64 (sumFrom s.data.toList m : Nat) ∧ iv = .int .i64 j ∧ j = (m : Int) - 1) (fun _ iv => (intOf iv + 1).toNat)
  case atStart => exact ⟨s.size, _, Nat.le_refl _, by rw [← Hl.out, sumFrom_end]; rfl, rfl, rfl⟩
  case round =>
    obtain ⟨m, j, hm, rfl, rfl, hj⟩ := hrel
    have h1 := HB.out m hm
    rcases m with _ | m
    · obtain rfl : j = -1 := by omega
      have hsm := sum_same s.data.toList
      generalize sumFrom s.data.toList 0 = n at *
      have hmod : Int.tmod (n : Int) 9973 = ((n % 9973 : Nat) : Int) := by rw [Int.tmod_eq_emod_of_nonneg (by omega)]; omega
      rw [hsm] at hmod
      clear hj hsm
      go_wp2
      go_ret
      exact ⟨rfl, rfl⟩
    · obtain rfl : j = (m : Int) := by omega
      have hst := sumFrom_step s.data.toList (i := m) (by rw [Hl.out]; omega)
      have h2 := HB.out m (by omega)
      clear hj
      have hm1 : m < s.size := by omega
      have hu : (s.data.toList.getD m 0).toNat ≤ 255 := by have := (s.data.toList.getD m 0).toNat_lt; omega
      have hmI : (m : Int) < s.size := by omega
      have hix : s.data.toList.getD m 0 = s[m] := by
        rw [List.getD_eq_getElem?_getD, List.getElem?_eq_getElem (by rw [Hl.out]; exact hm1)]; rfl
      rw [hix] at hst hu
      obtain ⟨p, hp⟩ : ∃ p, p = (m + 1) * (s[m]).toNat := ⟨_, rfl⟩
      have hpI : ((m : Int) + 1) * ((s[m]).toNat : Int) = (p : Int) := by rw [hp]; push_cast; rfl
      have hpb : p ≤ 2000000 * 255 := by rw [hp]; exact Nat.mul_le_mul (by omega) hu
      have hwp := wrap64_nat p (by omega)
      rw [← hp] at hst
      have HS := Lib.hid hst
      clear hst hp hix
      generalize sumFrom s.data.toList (m + 1) = n1 at *
      obtain ⟨n2, hn2⟩ : ∃ n2, n2 = sumFrom s.data.toList m := ⟨_, rfl⟩
      rw [← hn2] at HS h2
      have Hn2 := Lib.hid hn2
      clear hn2
      have hw : wrap64 ((n1 : Int) + (p : Int)) = (n2 : Int) := by have := HS.out; unfold wrap64; omega
      go_wp2
      go_round
      case rel => exact ⟨m, _, by omega, by rw [← Hn2.out, HS.out]; rfl, rfl, rfl⟩
      case measure => simp only [intOf]; omega
end Go.Proofs.YtfejlkgddnamoaaGreatDoor
