/- WALK: wed.Check; slices of lists that came in. -/
import Derived.Test.YtomgcfjdmoefgaaDoorWedWhole
namespace Go.Proofs.YtomgcfjdmoefgaaDoor
open Go Go.RowKit

/-- THE SLICE AT `a` READS AS THE LISTS `m` -/
def Mat (w : World) (a : Option Addr) (m : List (List Int)) : Prop :=
  m = [] ∨ ∃ b off, a = some ⟨b, off, none⟩ ∧ b < w.heap.size ∧ ∀ i, i < m.length → ∃ ai ci, w.cell? ⟨b, off + i, none⟩ = some (.slice ai (m.getD i []).length ci) ∧ Ints w ai (m.getD i []) ∧ (m.getD i []).length ≤ 9223372036854775807
theorem Mat.below {w w' : World} {a : Option Addr} {m : List (List Int)} (h : Mat w a m) (hb : Below w.heap.size w w') : Mat w' a m := by
  rcases h with h | ⟨b, off, rfl, hl, hc⟩
  · exact .inl h
  · refine .inr ⟨b, off, rfl, by have := hb.size; omega, fun i hi => ?_⟩
    obtain ⟨ai, ci, h1, h2, h3⟩ := hc i hi
    exact ⟨ai, ci, by rw [hb.cell (p := ⟨b, off + i, none⟩) hl]; exact h1, h2.below hb, h3⟩
theorem Mat.open {w : World} {a : Option Addr} {m : List (List Int)} (h : Mat w a m) (h0 : 0 < m.length) : ∃ b off, a = some ⟨b, off, none⟩ ∧ b < w.heap.size ∧ ∀ i, i < m.length → ∃ ai ci, w.cell? ⟨b, off + i, none⟩ = some (.slice ai (m.getD i []).length ci) ∧ Ints w ai (m.getD i []) ∧ (m.getD i []).length ≤ 9223372036854775807 := by
  rcases h with rfl | h
  · simp at h0
  · exact h

def Side (n : Nat) (m : List (List Int)) : Prop := ∀ i, i < m.length → AllOf n (m.getD i [])
/-- two sides as they should be -/
structure FineW (A B : List (List Int)) : Prop where
  short : A.length ≤ 8
  same : B.length = A.length
  a : Side A.length A
  b : Side A.length B
def CheckRes (A B : List (List Int)) (w : World) (e : Ending) (w' : World) : Prop :=
  ((e = .returned .nilIface ∧ FineW A B) ∨ ∃ k : Int, k ≠ 0 ∧ e = .returned (.iface 81 (.int .i64 k)) ∧ ¬ FineW A B) ∧ Below w.heap.size w w'
theorem CheckRes.bad {A B : List (List Int)} {w w' : World} (k : Int) (hk : k ≠ 0) (h : ¬ FineW A B) (hb : Below w.heap.size w w') : CheckRes A B w (.returned (.iface 81 (.int .i64 k))) w' := ⟨.inr ⟨k, hk, rfl, h⟩, hb⟩

set_option maxHeartbeats 2000000 in
theorem CheckW_any (A B : List (List Int)) (a b : Option Addr) (cap cap' : Nat) (w : World) (hx : Mat w a A) (hy : Mat w b B) (hl : A.length ≤ 9223372036854775807) (hl' : B.length ≤ 9223372036854775807) :
    Calls Tryd.prog 28 #[.slice a A.length cap, .slice b B.length cap'] w fun e w' => CheckRes A B w e w' := by
  rcases Nat.lt_or_ge 8 A.length with h1 | h1
  · have h1' : (8 : Int) < A.length := by omega
    go_enter Tryd.func28, Tryd.ntmps28
    go_wp2
    go_ret
    exact CheckRes.bad 4 (by decide) (fun h => by have := h.short; omega) (Below.refl _ _)
  · have h1' : (A.length : Int) ≤ 8 := by omega
    rcases Nat.lt_or_ge 8 B.length with h2 | h2
    · have h2' : (8 : Int) < B.length := by omega
      go_enter Tryd.func28, Tryd.ntmps28
      go_wp2
      go_ret
      exact CheckRes.bad 4 (by decide) (fun h => by have := h.short; have := h.same; omega) (Below.refl _ _)
    · have h2' : (B.length : Int) ≤ 8 := by omega
      by_cases h3 : B.length = A.length
      · have hne : ((B.length : Int) != (A.length : Int)) = false := by rw [bne_eq_false_iff_eq]; omega
        have H3 := Lib.hid h3
        clear h3
        go_enter Tryd.func28, Tryd.ntmps28
        have ix0 : ∀ (x0 x1 : Value) (w : World), (Instr.index 83 (.agg #[x0, x1]) (.int .i64 0)).run Tryd.prog w = .ok x0 w := fun x0 x1 w => by kernel_rfl
        have ix1 : ∀ (x0 x1 : Value) (w : World), (Instr.index 83 (.agg #[x0, x1]) (.int .i64 1)).run Tryd.prog w = .ok x1 w := fun x0 x1 w => by kernel_rfl
        go_wp2
        go_loopw [29] (fun i wr => ∃ j : Nat, i = .int .i64 j ∧ j ≤ 2 ∧ (1 ≤ j → Side A.length A) ∧ (2 ≤ j → Side A.length B) ∧ Below w.heap.size w wr) (fun i _ => 2 - (intOf i).toNat)
        case atStart => exact ⟨0, rfl, by omega, fun h => by omega, fun h => by omega, Below.refl _ _⟩
        case round =>
          obtain ⟨j, rfl, hj, hA1, hB1, hb⟩ := hrel
          have HA1 := Lib.hid hA1
          have HB1 := Lib.hid hB1
          clear hA1 hB1
          have hj3 : j = 0 ∨ j = 1 ∨ j = 2 := by omega
          rcases hj3 with rfl | rfl | rfl
          · rw [show ((0 : Nat) : Int) = 0 from rfl]
            go_wp2
            go_loopw [34] (fun i wx => ∃ k : Nat, i = .int .i64 k ∧ k ≤ A.length ∧ (∀ i, i < k → AllOf A.length (A.getD i [])) ∧ Below w.heap.size w wx) (fun i _ => A.length - (intOf i).toNat)
            case atStart => exact ⟨0, rfl, Nat.zero_le _, fun i hi => by omega, hb⟩
            case round =>
              obtain ⟨k, rfl, hk, hall, hbx⟩ := hrel
              have Hall := Lib.hid hall
              clear hall
              rcases Nat.lt_or_ge k A.length with hlt | hge
              · obtain ⟨bm, om, rfl, hbm, hcm⟩ := (hx.below hbx).open (by omega)
                obtain ⟨ai, ci, c1, c2, c3⟩ := hcm k hlt
                have hW := Whole_any A.length (A.getD k []) ai ci wr c2 (by omega) c3
                have HW := Lib.hid hW
                clear hcm hW c2
                obtain ⟨row, hrow⟩ : ∃ row, A.getD k [] = row := ⟨_, rfl⟩
                rw [hrow] at c1 c3 HW
                have Hrow := Lib.hid hrow
                clear hrow
                go_wp2_with fail
                refine HW.out.mono ?_
                rintro e w2 ⟨⟨rfl, hA⟩ | ⟨kk, hkk, rfl, hA⟩, hb2⟩
                · have hb3 := hbx.trans (hb2.mono hbx.size)
                  have HA := Lib.hid hA
                  clear hA
                  go_wp2
                  go_roundw
                  case rel =>
                    refine ⟨k + 1, by go_num, by omega, fun i hi => ?_, hb3⟩
                    rcases Nat.lt_or_ge i k with h | h
                    · exact Hall.out i h
                    · obtain rfl : i = k := by omega
                      rw [Hrow.out]; exact HA.out
                  case measure => simp only [intOf]; omega
                · have hb3 := hbx.trans (hb2.mono hbx.size)
                  have HA := Lib.hid hA
                  clear hA
                  go_wp2
                  go_ret
                  exact CheckRes.bad kk hkk (fun h => HA.out (by rw [← Hrow.out]; exact h.a k hlt)) hb3
              · have hfull : Side A.length A := fun i hi => Hall.out i (by omega)
                have h5 : (A.length : Int) ≤ k := by omega
                have Hfull := Lib.hid hfull
                clear hfull
                go_wp2
                go_roundw
                case rel => exact ⟨1, rfl, by omega, fun _ => Hfull.out, fun h => by omega, hbx⟩
                case measure => simp only [intOf]; omega
          · rw [show ((1 : Nat) : Int) = 1 from rfl]
            go_wp2
            go_loopw [34] (fun i wx => ∃ k : Nat, i = .int .i64 k ∧ k ≤ B.length ∧ (∀ i, i < k → AllOf A.length (B.getD i [])) ∧ Below w.heap.size w wx) (fun i _ => B.length - (intOf i).toNat)
            case atStart => exact ⟨0, rfl, Nat.zero_le _, fun i hi => by omega, hb⟩
            case round =>
              obtain ⟨k, rfl, hk, hall, hbx⟩ := hrel
              have Hall := Lib.hid hall
              clear hall
              rcases Nat.lt_or_ge k B.length with hlt | hge
              · obtain ⟨bm, om, rfl, hbm, hcm⟩ := (hy.below hbx).open (by omega)
                obtain ⟨ai, ci, c1, c2, c3⟩ := hcm k hlt
                have hW := Whole_any A.length (B.getD k []) ai ci wr c2 (by omega) c3
                have HW := Lib.hid hW
                clear hcm hW c2
                obtain ⟨row, hrow⟩ : ∃ row, B.getD k [] = row := ⟨_, rfl⟩
                rw [hrow] at c1 c3 HW
                have Hrow := Lib.hid hrow
                clear hrow
                go_wp2_with fail
                refine HW.out.mono ?_
                rintro e w2 ⟨⟨rfl, hA⟩ | ⟨kk, hkk, rfl, hA⟩, hb2⟩
                · have hb3 := hbx.trans (hb2.mono hbx.size)
                  have HA := Lib.hid hA
                  clear hA
                  go_wp2
                  go_roundw
                  case rel =>
                    refine ⟨k + 1, by go_num, by omega, fun i hi => ?_, hb3⟩
                    rcases Nat.lt_or_ge i k with h | h
                    · exact Hall.out i h
                    · obtain rfl : i = k := by omega
                      rw [Hrow.out]; exact HA.out
                  case measure => simp only [intOf]; omega
                · have hb3 := hbx.trans (hb2.mono hbx.size)
                  have HA := Lib.hid hA
                  clear hA
                  go_wp2
                  go_ret
                  exact CheckRes.bad kk hkk (fun h => HA.out (by rw [← Hrow.out]; exact h.b k hlt)) hb3
              · have hfull : Side A.length B := fun i hi => Hall.out i (by omega)
                have h5 : (B.length : Int) ≤ k := by omega
                have Hfull := Lib.hid hfull
                clear hfull
                go_wp2
                go_roundw
                case rel => exact ⟨2, rfl, by omega, fun _ => HA1.out (by omega), fun _ => Hfull.out, hbx⟩
                case measure => simp only [intOf]; omega
          · rw [show ((2 : Nat) : Int) = 2 from rfl]
            go_wp2
            go_ret
            exact ⟨.inl ⟨rfl, by omega, H3.out, HA1.out (by omega), HB1.out (by omega)⟩, hb⟩
      · have hne : ((B.length : Int) != (A.length : Int)) = true := by rw [bne_iff_ne]; omega
        have H3 := Lib.hid h3
        clear h3
        go_enter Tryd.func28, Tryd.ntmps28
        go_wp2
        go_ret
        exact CheckRes.bad 3 (by decide) (fun h => H3.out h.same) (Below.refl _ _)
end Go.Proofs.YtomgcfjdmoefgaaDoor
