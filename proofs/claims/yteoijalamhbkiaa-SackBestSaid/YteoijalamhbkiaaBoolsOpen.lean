/- WALK: a slice of bools that came in, opened. -/
import Derived.Test.YteoijalamhbkiaaBase
import Derived.Test.YteoijalamhbkiaaRows
import Derived.Deep.Slices
namespace Go.Proofs.Yteoijalamhbkiaa
open Go Go.RowKit Go.Deep Go.ChangeShapes Go.WideShapes

def Bools (w : World) (a : Option Addr) (l : List Bool) : Prop := l = [] ∨ ∃ b off, a = some ⟨b, off, none⟩ ∧ b < w.heap.size ∧ ∀ i, i < l.length → w.cell? ⟨b, off + i, none⟩ = some (.bool (l.getD i false))
theorem Bools.below {w w' : World} {a : Option Addr} {l : List Bool} (h : Bools w a l) (hb : Below w.heap.size w w') : Bools w' a l := by
  rcases h with h | ⟨b, off, rfl, hl, hc⟩
  · exact .inl h
  · exact .inr ⟨b, off, rfl, by have := hb.size; omega, fun i hi => by rw [hb.cell (p := ⟨b, off + i, none⟩) hl]; exact hc i hi⟩
theorem Bools.open {w : World} {a : Option Addr} {l : List Bool} (h : Bools w a l) (h0 : 0 < l.length) : ∃ b off, a = some ⟨b, off, none⟩ ∧ b < w.heap.size ∧ ∀ i, i < l.length → w.cell? ⟨b, off + i, none⟩ = some (.bool (l.getD i false)) := by
  rcases h with rfl | h
  · simp at h0
  · exact h
def Row_bools (w : World) (a : Option Addr) (len cap : Nat) : Prop :=
  (a = none ∧ len = 0 ∧ cap = 0) ∨ ∃ x, a = some x ∧ len ≤ cap ∧ cap ≤ maxLen ∧ ∀ i, i < len → ∃ v : Bool, w.cell? (x.add i) = some (.bool v)
theorem open_bools {H : Type} {enc : TypeId × Value → H} {w : World} {spare : Nat → Bool} {held : Bool} {fuel : Nat} {a : Option Addr} {len cap : Nat} {x : DataW H × List MemPlace}
    (h : DataW.trod enc Try.prog w 0 spare held fuel 32 (Value.cells (.slice a len cap)).toList = some x) : Row_bools w a len cap := by
  have ce : Try.prog.cellsOf 4 = 1 := by kernel_rfl
  rcases open_slice1 Try.underlying32 ce h with ⟨hc, _⟩ | ⟨y, l, c, m, n, V, D, Pl, hc, _, hl, hm, hmm, _, hx⟩
  · simp [Value.cells] at hc
    exact .inl hc
  · simp [Value.cells] at hc
    obtain ⟨rfl, rfl, rfl⟩ := hc
    refine .inr ⟨y, rfl, hl, hm, fun i hi => ?_⟩
    have hlm : len ≤ m := by rw [hmm]; split <;> omega
    obtain ⟨h1, h2⟩ := hx i (by omega)
    obtain ⟨v, q0, _⟩ := DataW.trod_bool Try.underlying4 h2
    simp only [List.cons.injEq, and_true] at q0
    exact ⟨v, by rw [← q0]; exact h1⟩
theorem row_bools {w : World} {a : Option Addr} {len cap : Nat} (h : Row_bools w a len cap) : ∃ l : List Bool, len = l.length ∧ Bools w a l ∧ l.length ≤ 9223372036854775807 := by
  rcases h with ⟨rfl, rfl, rfl⟩ | ⟨x, rfl, hl, hm, hc⟩
  · exact ⟨[], rfl, .inl rfl, by simp⟩
  · obtain ⟨q, hq⟩ := choose_lt hc
    unfold maxLen at hm
    refine ⟨(List.range len).map q, by simp, ?_, by simp; omega⟩
    by_cases h0 : len = 0
    · subst h0; exact .inl rfl
    · obtain ⟨b, off, spot⟩ := x
      have h0' := hq 0 (by omega)
      have hsp : spot = none := by simpa [Addr.add] using World.cell?_spot h0'
      subst hsp
      refine .inr ⟨b, off, rfl, ?_, fun i hi => ?_⟩
      · have := World.block_lt_of_cell? w _ h0'
        simpa [Addr.add] using this
      · have hi' : i < len := by simpa using hi
        have e0 := hq i hi'
        have hadd : ∀ j, (⟨b, off, none⟩ : Addr).add j = ⟨b, off + j, none⟩ := fun j => by unfold Addr.add; split <;> simp_all
        rw [hadd] at e0
        rw [e0, List.getD_eq_getElem?_getD, List.getElem?_eq_getElem hi]; simp
end Go.Proofs.Yteoijalamhbkiaa
