/- WALK: ricksteadsame.Sum. -/
import Derived.Test.YteidoknpnfbonaaWithin
namespace Go.Proofs.Yteidoknpnfbonaa
open Go Go.RowKit

theorem sum_take (xs : List Int) (k : Nat) (h : k < xs.length) : (xs.take (k + 1)).sum = (xs.take k).sum + xs.getD k 0 := by
  rw [List.take_add_one, List.sum_append, List.getD_eq_getElem?_getD, List.getElem?_eq_getElem h]; simp

/-- sums stay small -/
def SmallSum (xs : List Int) : Prop := ∀ k, k ≤ xs.length → -4611686018427387904 ≤ (xs.take k).sum ∧ (xs.take k).sum ≤ 4611686018427387904

theorem Sum_any (xs : List Int) (a : Option Addr) (cap : Nat) (w : World) (hx : Ints w a xs) (hs : SmallSum xs) (hl : xs.length ≤ 9223372036854775807) :
    Calls Try.prog 18 #[.slice a xs.length cap] w fun e w' => e = .returned (.int .i64 xs.sum) ∧ w = w' := by
  go_enter Try.func18, Try.ntmps18
  go_wp2
  go_loop [3, 4] (fun n i => ∃ k : Nat, k ≤ xs.length ∧ i = .int .i64 k ∧ n = .int .i64 (xs.take k).sum) (fun _ i => xs.length - (intOf i).toNat)
  case atStart => exact ⟨0, Nat.zero_le _, rfl, rfl⟩
  case round =>
    obtain ⟨k, hk, rfl, rfl⟩ := hrel
    by_cases hlt : k < xs.length
    · obtain ⟨b, off, rfl, hc⟩ := hx.open (by omega)
      have hck := hc k hlt
      have hb := hs (k + 1) (by omega)
      rw [sum_take xs k hlt] at hb
      clear hc
      generalize hv : xs.getD k 0 = v at hck hb
      have Hv := Lib.hid hv
      clear hv
      go_wp2
      all_goals
        go_round
        case rel => exact ⟨k + 1, by omega, by go_num, by rw [sum_take xs k hlt, Hv.out]⟩
        case measure => simp only [intOf]; omega
    · go_wp2
      go_ret
      exact ⟨ret_int (by rw [List.take_of_length_le (by omega)]), rfl⟩

theorem take_sum_le (xs : List Int) (h : ∀ x ∈ xs, 0 ≤ x) (k : Nat) : 0 ≤ (xs.take k).sum ∧ (xs.take k).sum ≤ xs.sum := by
  induction xs generalizing k with
  | nil => simp
  | cons x xs ih =>
    have hx := h x (by simp)
    have ih := fun k => ih (fun y hy => h y (List.mem_cons_of_mem _ hy)) k
    cases k with
    | zero => have := ih xs.length; rw [List.take_length] at this; simp; omega
    | succ k => have := ih k; simp; omega
theorem small_of_nonneg (xs : List Int) (h : ∀ x ∈ xs, 0 ≤ x) (hs : xs.sum ≤ 4611686018427387904) : SmallSum xs := fun k _ => by
  have := take_sum_le xs h k; omega
theorem sum_le_const (m : List Int) (C : Int) (h : ∀ k ∈ m, k ≤ C) : m.sum ≤ C * m.length := by
  induction m with
  | nil => simp
  | cons a m ih =>
    have := h a (by simp)
    have := ih (fun k hk => h k (List.mem_cons_of_mem _ hk))
    simp only [List.sum_cons, List.length_cons]
    rw [Int.natCast_succ, Int.mul_add]; omega
end Go.Proofs.Yteidoknpnfbonaa
