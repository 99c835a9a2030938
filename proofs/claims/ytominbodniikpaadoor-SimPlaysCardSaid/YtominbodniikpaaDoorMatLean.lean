/- slices of lists that came in. -/
import Derived.Test.YtominbodniikpaaDoorBase
namespace Go.Proofs.YtominbodniikpaaDoor
open Go Go.RowKit

/-- THE SLICE AT `a` READS AS THE LISTS `m` -/
def Mat (w : World) (a : Option Addr) (m : List (List Int)) : Prop :=
  m = [] ∨ ∃ b off, a = some ⟨b, off, none⟩ ∧ b < w.heap.size ∧ ∀ i, i < m.length → ∃ ai ci, w.cell? ⟨b, off + i, none⟩ = some (.slice ai (m.getD i []).length ci) ∧ Ints w ai (m.getD i []) ∧ (m.getD i []).length ≤ 9223372036854775807
theorem Mat.below {w w' : World} {a : Option Addr} {m : List (List Int)} (h : Mat w a m) (hb : Below w.heap.size w w') : Mat w' a m := by
  rcases h with h | ⟨b, off, rfl, hl, hc⟩
  · exact .inl h
  · refine .inr ⟨b, off, rfl, by have := hb.size; omega, fun i hi => ?_⟩
    obtain ⟨ai, ci, h1, h2, h3⟩ := hc i hi
    exact ⟨ai, ci, by rw [hb.cell (p := ⟨b, off + i, none⟩) hl]; exact h1, h2.below hb, h3⟩
theorem Mat.open {w : World} {a : Option Addr} {m : List (List Int)} (h : Mat w a m) (h0 : 0 < m.length) : ∃ b off, a = some ⟨b, off, none⟩ ∧ b < w.heap.size ∧ ∀ i, i < m.length → ∃ ai ci, w.cell? ⟨b, off + i, none⟩ = some (.slice ai (m.getD i []).length ci) ∧ Ints w ai (m.getD i []) ∧ (m.getD i []).length ≤ 9223372036854775807 := by
  rcases h with rfl | h
  · simp at h0
  · exact h

end Go.Proofs.YtominbodniikpaaDoor
