/- WALK: ricksteadsame.Ints. -/
import Derived.Test.YtomgcfjdmoefgaaDoorWithin
namespace Go.Proofs.YtomgcfjdmoefgaaDoor
open Go Go.RowKit

theorem list_eq_of_getD (xs ys : List Int) (hl : xs.length = ys.length) (h : ∀ k, k < xs.length → xs.getD k 0 = ys.getD k 0) : xs = ys := by
  apply List.ext_getElem hl
  intro i h1 h2
  have := h i h1
  rw [List.getD_eq_getElem?_getD, List.getD_eq_getElem?_getD, List.getElem?_eq_getElem h1, List.getElem?_eq_getElem h2] at this
  simpa using this

/-- are they the same? -/
def sameB (xs ys : List Int) : Bool := decide (xs = ys)

theorem Ints_any (xs ys : List Int) (a b : Option Addr) (cap cap' : Nat) (w : World) (hx : Ints w a xs) (hy : Ints w b ys) (hl : xs.length ≤ 9223372036854775807) :
    Calls Tryd.prog 25 #[.slice a xs.length cap, .slice b ys.length cap'] w fun e w' => e = .returned (.bool (sameB xs ys)) ∧ ∃ n, w' = w.drewN n := by
  by_cases hlen : xs.length = ys.length
  · have h1 : ((xs.length : Int) != (ys.length : Int)) = false := by rw [bne_eq_false_iff_eq]; omega
    have Hlen := Lib.hid hlen
    clear hlen
    go_enter Tryd.func25, Tryd.ntmps25
    go_wp2
    go_loopw [5] (fun i wr => ∃ k : Nat, k ≤ xs.length ∧ i = .int .i64 k ∧ (∀ j, j < k → xs.getD j 0 = ys.getD j 0) ∧ ∃ n, wr = w.drewN n) (fun i _ => xs.length - (intOf i).toNat)
    case atStart => exact ⟨0, Nat.zero_le _, rfl, fun j hj => by omega, 0, rfl⟩
    case round =>
      obtain ⟨k, hk, rfl, hall, n, rfl⟩ := hrel
      have Hall := Lib.hid hall
      clear hall
      rcases Nat.lt_or_ge k xs.length with hlt | hge
      · have hlt' : k < ys.length := by have := Hlen.out; omega
        obtain ⟨b1, o1, rfl, hc⟩ := hx.open (by omega)
        obtain ⟨b2, o2, rfl, hd⟩ := hy.open (by omega)
        have hck := hc k hlt
        have hdk := hd k hlt'
        clear hc hd
        generalize hu : xs.getD k 0 = u at hck
        generalize hv : ys.getD k 0 = v at hdk
        have Hu := Lib.hid hu
        have Hv := Lib.hid hv
        clear hu hv
        by_cases huv : u = v
        · have t1 : (u != v) = false := by rw [bne_eq_false_iff_eq]; exact huv
          have Huv := Lib.hid huv
          clear huv
          go_wp2
          go_quiet (fail)
          go_wp2
          go_roundw
          case rel =>
            refine ⟨k + 1, by omega, by go_num, fun j hj => ?_, n + nq, by first | rfl | rw [World.drewN_drewN]⟩
            rcases Nat.lt_or_ge j k with h | h
            · exact Hall.out j h
            · have : j = k := by omega
              subst this; rw [Hu.out, Hv.out]; exact Huv.out
          case measure => simp only [intOf]; omega
        · have t1 : (u != v) = true := by rw [bne_iff_ne]; exact huv
          have Huv := Lib.hid huv
          clear huv
          go_wp2
          go_quiet (fail)
          go_wp2
          go_ret
          refine ⟨ret_bool ?_, n + nq, by first | rfl | rw [World.drewN_drewN]⟩
          unfold sameB
          symm
          rw [decide_eq_false_iff_not]
          intro h
          apply Huv.out
          rw [← Hu.out, ← Hv.out, h]
      · have hkn : k = xs.length := by omega
        have Hkn := Lib.hid hkn
        clear hkn
        have h3 : ((xs.length : Nat) : Int) ≤ (k : Int) := by omega
        go_wp2
        go_ret
        refine ⟨ret_bool ?_, n, rfl⟩
        unfold sameB
        symm
        rw [decide_eq_true_eq]
        exact list_eq_of_getD xs ys Hlen.out (fun j hj => Hall.out j (by rw [Hkn.out]; exact hj))
  · have h1 : ((xs.length : Int) != (ys.length : Int)) = true := by rw [bne_iff_ne]; omega
    have Hlen := Lib.hid hlen
    clear hlen
    go_enter Tryd.func25, Tryd.ntmps25
    go_wp2
    go_ret
    refine ⟨ret_bool ?_, 0, rfl⟩
    unfold sameB
    symm
    rw [decide_eq_false_iff_not]
    intro h
    exact Hlen.out (by rw [h])
end Go.Proofs.YtomgcfjdmoefgaaDoor
