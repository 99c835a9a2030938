/- WALKS: the sum of a line: book.sum, the document's Sum; and Digits. -/
import Derived.Test.YtfejlkgddnamoaaGreatDoorBase
import Derived.Test.YtfejlkgddnamoaaGreatDoorRows
import Derived.BigRegion
import Derived.Lib.ItoaNum
import Derived.Lib.ConvBytes
import Derived.Lib.AtoiErrMem
import Derived.Lib.Strings
import Derived.Laws.Concat
set_option linter.unusedVariables false
set_option linter.unusedSimpArgs false
namespace BookPlain
/-- the sum of the first k bytes -/
def sumAt (l : List UInt8) : Nat → Nat
  | 0 => 0
  | k + 1 => (sumAt l k + (k + 1) * (l.getD k 0).toNat) % 9973
def sumB (l : List UInt8) : Nat := sumAt l l.length
theorem sumAt_lt (l : List UInt8) : ∀ k, sumAt l k < 9973
  | 0 => by simp [sumAt]
  | k + 1 => Nat.mod_lt _ (by decide)
/-- all of them, from behind, not yet reduced -/
def sumFrom (l : List UInt8) (i : Nat) : Nat := ((List.range (l.length - i)).map fun j => (i + j + 1) * (l.getD (i + j) 0).toNat).sum
theorem sumFrom_end (l : List UInt8) : sumFrom l l.length = 0 := by simp [sumFrom]
theorem sumFrom_step (l : List UInt8) {i : Nat} (h : i < l.length) : sumFrom l i = sumFrom l (i + 1) + (i + 1) * (l.getD i 0).toNat := by
  unfold sumFrom
  rw [show l.length - i = (l.length - (i + 1)) + 1 by omega, List.range_succ_eq_map, List.map_cons, List.sum_cons, List.map_map, Nat.add_zero, Nat.add_comm]
  congr 2
  apply List.map_congr_left
  intro j _
  simp only [Function.comp]
  rw [show i + (j + 1) = i + 1 + j by omega]
theorem sumFrom_le (l : List UInt8) : ∀ n i, n + i = l.length → sumFrom l i ≤ n * (l.length * 255)
  | 0, i, h => by rw [show i = l.length by omega, sumFrom_end]; omega
  | n + 1, i, h => by
    have ih := sumFrom_le l n (i + 1) (by omega)
    rw [sumFrom_step l (by omega)]
    have h1 : (l.getD i 0).toNat ≤ 255 := by have := (l.getD i 0).toNat_lt; omega
    have h2 : (i + 1) * (l.getD i 0).toNat ≤ l.length * 255 := Nat.mul_le_mul (by omega) h1
    exact Nat.le_trans (Nat.add_le_add ih h2) (Nat.le_of_eq (Nat.succ_mul _ _).symm)
theorem sum_both (l : List UInt8) : ∀ k, k ≤ l.length → (sumAt l k + sumFrom l k) % 9973 = sumFrom l 0 % 9973
  | 0, _ => by simp [sumAt]
  | k + 1, h => by
    have ih := sum_both l k (by omega)
    rw [sumFrom_step l (by omega)] at ih
    rw [← ih]
    simp only [sumAt]
    omega
theorem sum_same (l : List UInt8) : sumFrom l 0 % 9973 = sumB l := by
  have := sum_both l l.length (Nat.le_refl _)
  rw [sumFrom_end, Nat.add_zero] at this
  rw [← this]
  exact Nat.mod_eq_of_lt (sumAt_lt l _)
end BookPlain
namespace Go.Proofs.YtfejlkgddnamoaaGreatDoor
open Go Go.RowKit BookPlain

/-- two texts one behind the other -/
theorem cat_run {P : Program} (a b c : ByteArray) (h : c.data.toList = a.data.toList ++ b.data.toList) (hs : a.size + b.size ≤ 9223372036854775807) (W : World) : (Op.stringOp .add a b).run P W = .ok (.string c) W := by
  rw [run_string_add_sum W a b hs]
  have : a ++ b = c := by
    apply ByteArray.ext
    apply Array.toList_inj.1
    rw [h, ByteArray.data_append, Array.toList_append]
  rw [this]
theorem mk_list (l : List UInt8) : ∃ x : ByteArray, x.data.toList = l ∧ x.size = l.length := ⟨⟨l.toArray⟩, by simp, by simp [ByteArray.size]⟩
theorem mk_size (l : List UInt8) : (⟨l.toArray⟩ : ByteArray).size = l.length := by simp [ByteArray.size]

set_option maxRecDepth 100000 in
set_option maxHeartbeats 2000000 in
theorem sum_any (s : ByteArray) (w : World) (hs : s.size ≤ 2000000) :
    Calls Tryz.prog 40 #[.string s] w fun e w' => e = .returned (.int .i64 (sumB s.data.toList : Nat)) ∧ Below w.heap.size w w' := by
  have hl : s.data.toList.length = s.size := (Lib.size_eq s).symm
  have hcv := Lib.run_convert_string_bytes (P := Tryz.prog) w 9 50 5 s Tryz.underlying9 Tryz.underlying50 Tryz.underlying5
  have hbw := Lib.bytesWorld_below w 5 s
  have hbc := Lib.bytesWorld_cell w 5 s
  generalize hl2 : s.data.toList = l at *
  have Hl2 := Lib.hid hl2
  have Hl := Lib.hid hl
  generalize Lib.bytesWorld w 5 s = W1 at *
  generalize grownCap w s.size 0 5 = cap at *
  have HB := Lib.hid hbw
  have HC := Lib.hid hbc
  generalize hg : w.heap.size = g at hcv HC
  have Hg := Lib.hid hg
  clear hl2 hl hbw hbc hg
  go_enter Tryz.func40, Tryz.ntmps40
  go_wp2
  go_loop [3, 9] (fun nv iv => ∃ k : Nat, k ≤ s.size ∧ nv = .int .i64 (sumAt l k : Nat) ∧ iv = .int .i64 k) (fun _ iv => s.size - (intOf iv).toNat)
  case atStart => exact ⟨0, Nat.zero_le _, rfl, rfl⟩
  case round =>
    obtain ⟨k, hk, rfl, rfl⟩ := hrel
    have hn := sumAt_lt l k
    have hst : sumAt l (k + 1) = (sumAt l k + (k + 1) * (l.getD k 0).toNat) % 9973 := rfl
    rcases Nat.lt_or_ge k s.size with hlt | hge
    · have hc := HC.out k hlt
      have hu : (l.getD k 0).toNat ≤ 255 := by have := (l.getD k 0).toNat_lt; omega
      generalize (l.getD k 0).toNat = c at *
      generalize sumAt l k = n at *
      have HS := Lib.hid hst
      clear hst
      obtain ⟨p, hp⟩ : ∃ p, p = (k + 1) * c := ⟨_, rfl⟩
      have hpb : p ≤ 2000000 * 255 := by rw [hp]; exact Nat.mul_le_mul (by omega) hu
      rw [← hp] at HS
      have hpI : ((k : Int) + 1) * (c : Int) = (p : Int) := by rw [hp]; push_cast; rfl
      have hmod : Int.tmod ((n : Int) + (p : Int)) 9973 = ((n + p) % 9973 : Nat) := by rw [Int.tmod_eq_emod_of_nonneg (by omega)]; omega
      rw [← HS.out] at hmod
      clear hp
      go_wp2
      go_round
      case rel => exact ⟨k + 1, by omega, rfl, by go_num⟩
      case measure => simp only [intOf]; omega
    · obtain rfl : s.size = k := by omega
      have h3 : decide (s.size < s.size) = false := by simp
      clear hst
      go_wp2
      go_ret
      exact ⟨ret_int (by unfold sumB; rw [Hl.out]), by rw [← Hg.out]; exact HB.out⟩
end Go.Proofs.YtfejlkgddnamoaaGreatDoor
