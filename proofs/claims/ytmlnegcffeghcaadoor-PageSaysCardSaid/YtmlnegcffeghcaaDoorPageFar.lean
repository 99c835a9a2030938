/- WALK: far.goes: who is asked for last. -/
import Derived.Test.YtmlnegcffeghcaaDoorPageSince
namespace Go.Proofs.YtmlnegcffeghcaaDoor
open Go Go.RowKit PagePlain Go.Maps

theorem Ints.dropAt {w : World} {b off : Nat} {xs : List Int} (h : ∀ i, i < xs.length → w.cell? ⟨b, off + i, none⟩ = some (.int .i64 (xs.getD i 0))) (t : Nat) : Ints w (some ⟨b, off + t, none⟩) (xs.drop t) := by
  refine .inr ⟨b, off + t, rfl, fun i hi => ?_⟩
  rw [List.length_drop] at hi
  have := h (t + i) (by omega)
  rw [← Nat.add_assoc] at this
  rw [this, List.getD_eq_getElem?_getD, List.getD_eq_getElem?_getD, List.getElem?_drop]
theorem far_goes (asks xs : List Int) (t : Nat) (aa a : Option Addr) (cap cap2 : Nat) (w : World) (ha : Ints w aa asks) (ht : t < asks.length) (hcap : asks.length ≤ cap) (hm : cap ≤ 9223372036854775807) (h60 : asks.length ≤ 60) (hx : Ints w a xs) (hl : xs.length ≤ 8) (h0 : 0 < xs.length) :
    Calls Tryd.prog 51 #[.agg #[.slice aa asks.length cap], .slice a xs.length cap2, .int .i64 t] w fun e w' => e = .returned (.int .i64 ((fr asks t xs xs.length).1 : Nat)) ∧ Below w.heap.size w w' := by
  obtain ⟨bb, oo, rfl, _⟩ := ha.open (by omega)
  have hb0 : Below w.heap.size w (w.alloc (.cells #[.slice (some ⟨bb, oo, none⟩) asks.length cap] 48)) := (Below.refl _ _).alloc (Nat.le_refl _) _
  obtain ⟨bb', oo', e1, hd⟩ := (ha.below hb0).open (by omega)
  simp only [Option.some.injEq, Addr.mk.injEq, and_true] at e1
  obtain ⟨rfl, rfl⟩ := e1
  have hD := Ints.dropAt hd t
  obtain ⟨b, o, rfl, hc⟩ := (hx.below hb0).open h0
  have hbox := box_cell w (.slice (some ⟨bb, oo, none⟩) asks.length cap) 48
  clear hd hx ha
  have htc : t ≤ cap := by omega
  have htI : (t : Int) < asks.length := by omega
  go_enter Tryd.func51, Tryd.ntmps51
  go_wp2
  generalize w.alloc (.cells #[.slice (some ⟨bb, oo, none⟩) asks.length cap] 48) = W at hb0 hD hc hbox ⊢
  have Hb0 := Lib.hid hb0
  clear hb0
  go_loopw [7, 8, 14] (fun best most i wr => ∃ k : Nat, i = .int .i64 k ∧ k ≤ xs.length ∧ best = .int .i64 ((fr asks t xs k).1 : Nat) ∧ most = .int .i64 (fr asks t xs k).2 ∧ ∃ q, wr = W.drewN q) (fun _ _ i _ => xs.length - (intOf i).toNat)
  case atStart => exact ⟨0, rfl, Nat.zero_le _, rfl, rfl, 0, rfl⟩
  case round =>
    obtain ⟨k, rfl, hk, rfl, rfl, q, rfl⟩ := hrel
    rcases Nat.lt_or_ge k xs.length with hlt | hge
    · have hll := fr_lt asks t xs k hk h0
      have c1 := hc k hlt
      have c2 := hc _ hll
      have hnr := nx_range asks t (xs.getD k 0)
      have e : fr asks t xs (k + 1) = if (fr asks t xs k).2 < nx asks t (xs.getD k 0) ∨ nx asks t (xs.getD k 0) = (fr asks t xs k).2 ∧ xs.getD k 0 < xs.getD (fr asks t xs k).1 0 then (k, nx asks t (xs.getD k 0)) else fr asks t xs k := rfl
      have hI := index_any (asks.drop t) (xs.getD k 0) _ (cap - t) (W.drewN q) (hD.drewN q) (by rw [List.length_drop]; omega)
      rw [List.length_drop] at hI
      have hnx : nx asks t (xs.getD k 0) = if idxI (asks.drop t) (xs.getD k 0) < 0 then (asks.length : Int) else idxI (asks.drop t) (xs.getD k 0) := by
        unfold nx idxI
        by_cases h : xs.getD k 0 ∈ asks.drop t
        · rw [if_pos h, if_pos h, if_neg (by omega)]
        · rw [if_neg h, if_neg h, if_pos (by omega)]
      generalize fr asks t xs k = mz at *
      obtain ⟨m, z⟩ := mz
      simp only at hll c2 e
      generalize xs.getD k 0 = u at *
      generalize xs.getD m 0 = v at *
      generalize idxI (asks.drop t) u = j at *
      generalize nx asks t u = nn at *
      have E := Lib.hid e
      have HI := Lib.hid hI
      have HNX := Lib.hid hnx
      clear e hI hnx hc
      go_wp2_with fail
      refine HI.out.mono ?_
      rintro e w1 ⟨rfl, rfl⟩
      rcases Int.lt_or_le j 0 with hj | hj
      · have e1 : nn = (asks.length : Int) := by have h := HNX.out; rw [if_pos hj] at h; exact h
        subst e1
        rcases Int.lt_or_le z (asks.length : Int) with hz | hz
        · have E2 := Lib.hid (E.out.trans (if_pos (.inl hz)))
          clear E HNX
          go_wp2
          go_roundw
          case rel => exact ⟨k + 1, by go_num, by omega, by rw [E2.out], by rw [E2.out], q, rfl⟩
          case measure => simp only [intOf]; omega
        · rcases Int.lt_or_le (asks.length : Int) z with hz2 | hz2
          · have E2 := Lib.hid (E.out.trans (if_neg (by rintro (h | h) <;> omega)))
            have hq : ((asks.length : Int) == z) = false := by rw [beq_eq_false_iff_ne]; omega
            clear E HNX
            go_wp2
            go_roundw
            case rel => exact ⟨k + 1, by go_num, by omega, by rw [E2.out], by rw [E2.out], q, rfl⟩
            case measure => simp only [intOf]; omega
          · have hze : z = (asks.length : Int) := by omega
            subst hze
            have hq : ((asks.length : Int) == (asks.length : Int)) = true := by simp
            have hq2 : decide (asks.length < asks.length) = false := by simp
            rcases Int.lt_or_le u v with hu | hu
            · have E2 := Lib.hid (E.out.trans (if_pos (.inr ⟨rfl, hu⟩)))
              clear E HNX
              go_wp2
              go_roundw
              case rel => exact ⟨k + 1, by go_num, by omega, by rw [E2.out], by rw [E2.out], q, rfl⟩
              case measure => simp only [intOf]; omega
            · have E2 := Lib.hid (E.out.trans (if_neg (by rintro (h | h) <;> omega)))
              clear E HNX
              go_wp2
              go_roundw
              case rel => exact ⟨k + 1, by go_num, by omega, by rw [E2.out], by rw [E2.out], q, rfl⟩
              case measure => simp only [intOf]; omega
      · have e1 : nn = j := by have h := HNX.out; rw [if_neg (by omega)] at h; exact h
        subst e1
        rcases Int.lt_or_le z nn with hz | hz
        · have E2 := Lib.hid (E.out.trans (if_pos (.inl hz)))
          clear E HNX
          go_wp2
          go_roundw
          case rel => exact ⟨k + 1, by go_num, by omega, by rw [E2.out], by rw [E2.out], q, rfl⟩
          case measure => simp only [intOf]; omega
        · rcases Int.lt_or_le nn z with hz2 | hz2
          · have E2 := Lib.hid (E.out.trans (if_neg (by rintro (h | h) <;> omega)))
            have hq : (nn == z) = false := by rw [beq_eq_false_iff_ne]; omega
            clear E HNX
            go_wp2
            go_roundw
            case rel => exact ⟨k + 1, by go_num, by omega, by rw [E2.out], by rw [E2.out], q, rfl⟩
            case measure => simp only [intOf]; omega
          · have hze : z = nn := by omega
            subst hze
            have hq : (z == z) = true := by simp
            rcases Int.lt_or_le u v with hu | hu
            · have E2 := Lib.hid (E.out.trans (if_pos (.inr ⟨rfl, hu⟩)))
              clear E HNX
              go_wp2
              go_roundw
              case rel => exact ⟨k + 1, by go_num, by omega, by rw [E2.out], by rw [E2.out], q, rfl⟩
              case measure => simp only [intOf]; omega
            · have E2 := Lib.hid (E.out.trans (if_neg (by rintro (h | h) <;> omega)))
              clear E HNX
              go_wp2
              go_roundw
              case rel => exact ⟨k + 1, by go_num, by omega, by rw [E2.out], by rw [E2.out], q, rfl⟩
              case measure => simp only [intOf]; omega
    · obtain rfl : xs.length = k := by omega
      have h3 : decide (xs.length < xs.length) = false := by simp
      go_wp2
      go_ret
      exact ⟨rfl, drewN_below Hb0.out _⟩
end Go.Proofs.YtmlnegcffeghcaaDoor
