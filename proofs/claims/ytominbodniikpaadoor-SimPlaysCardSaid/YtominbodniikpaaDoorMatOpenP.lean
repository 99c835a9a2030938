/- WALK: a slice of slices of numbers that came in, opened. -/
import Derived.Test.YtominbodniikpaaDoorSimPlaysLaw
import Derived.Deep.Matrix
namespace Go.Proofs.YtominbodniikpaaDoor
open Go Go.RowKit Go.Deep Go.ChangeShapes Go.WideShapes

def Row_mat (w : World) (a : Option Addr) (len cap : Nat) : Prop :=
  (a = none ∧ len = 0 ∧ cap = 0) ∨ ∃ x, a = some x ∧ len ≤ cap ∧ cap ≤ maxLen ∧ ∀ i, i < len → ∃ (ai : Option Addr) (ci : Nat) (xs : List Int), w.cell? (x.add i) = some (.slice ai xs.length ci) ∧ Ints w ai xs ∧ xs.length ≤ 9223372036854775807
theorem open_mat {H : Type} {enc : TypeId × Value → H} {w : World} {held : Bool} {fuel : Nat} {a : Option Addr} {len cap : Nat} {x : DataW H × List MemPlace}
    (h : DataW.trod enc Tryd.prog w 0 (fun _ => true) held fuel 22 (Value.cells (.slice a len cap)).toList = some x) : Row_mat w a len cap := by
  rcases open_int_rows Tryd.underlying22 Tryd.underlying26 Tryd.underlying3 (by kernel_rfl) (by kernel_rfl) h with ⟨hc, _⟩ | ⟨y, l, c, A, L, C, Z, hc, _, hl, hm, _, hr⟩
  · simp [Value.cells] at hc
    exact .inl hc
  · simp [Value.cells] at hc
    obtain ⟨rfl, rfl, rfl⟩ := hc
    refine .inr ⟨y, rfl, hl, hm, fun i hi => ?_⟩
    obtain ⟨r0, r1, r2, r3, r4, r5, r6⟩ := hr i (by omega)
    have key : (A i = none ∧ L i = 0 ∧ C i = 0 ∧ Z i = []) ∨ ∃ x, A i = some x ∧ L i ≤ C i ∧ C i ≤ maxLen ∧ (Z i).length = C i ∧ (∀ j, j < (Z i).length → w.cell? (x.add j) = some (.int .i64 ((Z i).getD j 0))) ∧ ∀ n ∈ Z i, (Lit.int .i64 n).wf = true := by
      cases hA : A i with
      | none =>
        have := r5 hA
        exact .inl ⟨rfl, by omega, this, List.eq_nil_of_length_eq_zero (by omega)⟩
      | some x =>
        exact .inr ⟨x, rfl, r1, r2, r3, fun j hj => (r6 x hA).2 j (by omega), r4⟩
    obtain ⟨xs, e1, e2, e3, _⟩ := row_ints key
    exact ⟨A i, C i, xs, by rw [← e1]; exact r0, e2, e3⟩
theorem row_mat {w : World} {a : Option Addr} {len cap : Nat} (h : Row_mat w a len cap) : ∃ m : List (List Int), len = m.length ∧ Mat w a m ∧ m.length ≤ 9223372036854775807 := by
  rcases h with ⟨rfl, rfl, rfl⟩ | ⟨x, rfl, hl, hm, hc⟩
  · exact ⟨[], rfl, .inl rfl, by simp⟩
  · have hc' : ∀ i, i < len → ∃ y : Option Addr × Nat × List Int, w.cell? (x.add i) = some (.slice y.1 y.2.2.length y.2.1) ∧ Ints w y.1 y.2.2 ∧ y.2.2.length ≤ 9223372036854775807 := fun i hi => by
      obtain ⟨ai, ci, xs, h1, h2, h3⟩ := hc i hi
      exact ⟨(ai, ci, xs), h1, h2, h3⟩
    obtain ⟨q, hq⟩ := choose_lt hc'
    unfold maxLen at hm
    refine ⟨(List.range len).map fun i => (q i).2.2, by simp, ?_, by simp; omega⟩
    by_cases h0 : len = 0
    · subst h0; exact .inl rfl
    · obtain ⟨b, off, spot⟩ := x
      have h0' := (hq 0 (by omega)).1
      have hsp : spot = none := by simpa [Addr.add] using World.cell?_spot h0'
      subst hsp
      refine .inr ⟨b, off, rfl, ?_, fun i hi => ?_⟩
      · have := World.block_lt_of_cell? w _ h0'
        simpa [Addr.add] using this
      · have hi' : i < len := by simpa using hi
        have e0 := hq i hi'
        have hadd : ∀ j, (⟨b, off, none⟩ : Addr).add j = ⟨b, off + j, none⟩ := fun j => by unfold Addr.add; split <;> simp_all
        rw [hadd] at e0
        have e : ((List.range len).map fun i => (q i).2.2).getD i [] = (q i).2.2 := by
          rw [List.getD_eq_getElem?_getD, List.getElem?_map, List.getElem?_range hi']; rfl
        rw [e]
        exact ⟨(q i).1, (q i).2.1, e0⟩
end Go.Proofs.YtominbodniikpaaDoor
