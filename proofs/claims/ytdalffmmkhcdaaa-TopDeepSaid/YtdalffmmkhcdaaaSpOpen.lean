/- WALK: a slice of spans that came in, opened. -/
import Derived.Test.YtdalffmmkhcdaaaTopDeep
import Derived.Deep.Slices
set_option linter.unusedVariables false
set_option linter.unusedSimpArgs false
namespace Go.Proofs.Ytdalffmmkhcdaaa
open Go Go.RowKit Go.Deep Go.ChangeShapes Go.WideShapes SimPlain

def Row_spans (w : World) (a : Option Addr) (len cap : Nat) : Prop :=
  (a = none ∧ len = 0 ∧ cap = 0) ∨ ∃ x, a = some x ∧ len ≤ cap ∧ cap ≤ maxLen ∧ ∀ i, i < len → ∃ m j : Int,
    w.cell? (x.add (i * 2)) = some (.int .i64 m) ∧ w.cell? (x.add (i * 2 + 1)) = some (.int .i64 j)
set_option maxRecDepth 100000 in
theorem open_spans {H : Type} {enc : TypeId × Value → H} {w : World} {spare : Nat → Bool} {held : Bool} {fuel : Nat} {a : Option Addr} {len cap : Nat} {x : DataW H × List MemPlace}
    (h : DataW.trod enc Try.prog w 0 spare held fuel 22 (Value.cells (.slice a len cap)).toList = some x) : Row_spans w a len cap := by
  have ce : Try.prog.cellsOf 35 = 2 := by kernel_rfl
  have c3 : Try.prog.cellsOf 3 = 1 := by kernel_rfl
  rcases open_slice Try.underlying22 h with ⟨hc, _⟩ | ⟨y, l, c, m, n, D, Pl, hc, _, hl, hm, hmm, _, hx⟩
  · simp [Value.cells] at hc
    exact .inl hc
  · simp [Value.cells] at hc
    obtain ⟨rfl, rfl, rfl⟩ := hc
    refine .inr ⟨y, rfl, hl, hm, fun i hi => ?_⟩
    have hlm : len ≤ m := by rw [hmm]; split <;> omega
    obtain ⟨cs', h1, h2⟩ := hx i (by omega)
    rw [ce] at h1
    obtain ⟨_, hlen, hcell⟩ := World.cells?_some h1
    obtain ⟨xs, k, hk, hxy, _, hxl, hf⟩ := DataW.trod_struct Try.underlying35 h2
    match xs, hxl, cs', hlen with
    | [y0, y1], _, [v0, v1], _ =>
      have g0 := hf 0 _ rfl
      have g1 := hf 1 _ rfl
      simp [c3] at g0 g1
      have e0 := hcell 0 (by omega)
      have e1 := hcell 1 (by omega)
      rw [add_add] at e0 e1
      obtain ⟨n0, q0, _, w0⟩ := DataW.trod_int Try.underlying3 g0
      obtain ⟨n1, q1, _, w1⟩ := DataW.trod_int Try.underlying3 g1
      simp only [List.cons.injEq, and_true] at q0 q1
      subst q0; subst q1
      exact ⟨n0, n1, by simpa using e0, by simpa using e1⟩
theorem row_spans {w : World} {a : Option Addr} {len cap : Nat} (h : Row_spans w a len cap) : ∃ l : List Ev, len = l.length ∧ EvA w a l ∧ l.length ≤ 9223372036854775807 := by
  rcases h with ⟨rfl, rfl, rfl⟩ | ⟨x, rfl, hl, hm, hc⟩
  · exact ⟨[], rfl, .inl rfl, by simp⟩
  · have each : ∀ i, i < len → ∃ q : Int × Int, w.cell? (x.add (i * 2)) = some (.int .i64 q.1) ∧ w.cell? (x.add (i * 2 + 1)) = some (.int .i64 q.2) := fun i hi => by
      obtain ⟨m, j, h⟩ := hc i hi
      exact ⟨(m, j), h⟩
    obtain ⟨q, hq⟩ := choose_lt each
    unfold maxLen at hm
    refine ⟨(List.range len).map fun i => ⟨(q i).1, (q i).2, 0⟩, by simp, ?_, by simp; omega⟩
    by_cases h0 : len = 0
    · subst h0; exact .inl rfl
    · obtain ⟨b, off, spot⟩ := x
      have h0' := (hq 0 (by omega)).1
      have hsp : spot = none := by simpa [Addr.add] using World.cell?_spot h0'
      subst hsp
      refine .inr ⟨b, off, rfl, ?_, fun i hi => ?_⟩
      · have := World.block_lt_of_cell? w _ h0'
        simpa [Addr.add] using this
      · have hi' : i < len := by simpa using hi
        obtain ⟨q0, q1⟩ := hq i hi'
        have hadd : ∀ j, (⟨b, off, none⟩ : Addr).add j = ⟨b, off + j, none⟩ := fun j => by unfold Addr.add; split <;> simp_all
        rw [hadd] at q0 q1
        have hg : ((List.range len).map fun i => (⟨(q i).1, (q i).2, 0⟩ : Ev)).getD i e0 = ⟨(q i).1, (q i).2, 0⟩ := by
          rw [List.getD_eq_getElem?_getD, List.getElem?_eq_getElem hi]; simp
        rw [hg]
        exact ⟨q0, by rw [Nat.add_assoc]; exact q1⟩
end Go.Proofs.Ytdalffmmkhcdaaa
