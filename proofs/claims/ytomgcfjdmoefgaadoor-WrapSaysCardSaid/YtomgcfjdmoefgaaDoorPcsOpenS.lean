/- WALK: a slice of pieces that came in, opened. -/
import Derived.Test.YtomgcfjdmoefgaaDoorWrapSays
import Derived.Deep.Slices
namespace Go.Proofs.YtomgcfjdmoefgaaDoor
open Go Go.RowKit Go.Deep Go.ChangeShapes Go.WideShapes

/-- pieces that came in -/
def Row_pcs (w : World) (a : Option Addr) (len cap : Nat) : Prop :=
  (a = none ∧ len = 0 ∧ cap = 0) ∨ ∃ x, a = some x ∧ len ≤ cap ∧ cap ≤ maxLen ∧ ∀ i, i < len → ∃ m j f t : Int,
    w.cell? (x.add (i * 4)) = some (.int .i64 m) ∧ w.cell? (x.add (i * 4 + 1)) = some (.int .i64 j) ∧ w.cell? (x.add (i * 4 + 2)) = some (.int .i64 f) ∧ w.cell? (x.add (i * 4 + 3)) = some (.int .i64 t) ∧
    ∀ n ∈ [m, j, f, t], -9223372036854775808 ≤ n ∧ n ≤ 9223372036854775807

theorem wf_range {n : Int} (h : (Lit.int .i64 n).wf = true) : -9223372036854775808 ≤ n ∧ n ≤ 9223372036854775807 := by
  simp [Lit.wf, IntKind.min, IntKind.max, IntKind.signed, IntKind.bits] at h
  omega
set_option maxRecDepth 100000 in
theorem open_pcs {H : Type} {enc : TypeId × Value → H} {w : World} {spare : Nat → Bool} {held : Bool} {fuel : Nat} {a : Option Addr} {len cap : Nat} {x : DataW H × List MemPlace}
    (h : DataW.trod enc Tryd.prog w 0 spare held fuel 23 (Value.cells (.slice a len cap)).toList = some x) : Row_pcs w a len cap := by
  have ce : Tryd.prog.cellsOf 80 = 4 := by kernel_rfl
  have c3 : Tryd.prog.cellsOf 3 = 1 := by kernel_rfl
  rcases open_slice Tryd.underlying23 h with ⟨hc, _⟩ | ⟨y, l, c, m, n, D, Pl, hc, _, hl, hm, hmm, _, hx⟩
  · simp [Value.cells] at hc
    exact .inl hc
  · simp [Value.cells] at hc
    obtain ⟨rfl, rfl, rfl⟩ := hc
    refine .inr ⟨y, rfl, hl, hm, fun i hi => ?_⟩
    have hlm : len ≤ m := by rw [hmm]; split <;> omega
    obtain ⟨cs', h1, h2⟩ := hx i (by omega)
    rw [ce] at h1
    obtain ⟨_, hlen, hcell⟩ := World.cells?_some h1
    obtain ⟨xs, k, hk, hxy, _, hxl, hf⟩ := DataW.trod_struct Tryd.underlying80 h2
    match xs, hxl, cs', hlen with
    | [y0, y1, y2, y3], _, [v0, v1, v2, v3], _ =>
      have g0 := hf 0 _ rfl
      have g1 := hf 1 _ rfl
      have g2 := hf 2 _ rfl
      have g3 := hf 3 _ rfl
      simp [c3] at g0 g1 g2 g3
      have e0 := hcell 0 (by omega)
      have e1 := hcell 1 (by omega)
      have e2 := hcell 2 (by omega)
      have e3 := hcell 3 (by omega)
      rw [add_add] at e0 e1 e2 e3
      obtain ⟨n0, q0, _, w0⟩ := DataW.trod_int Tryd.underlying3 g0
      obtain ⟨n1, q1, _, w1⟩ := DataW.trod_int Tryd.underlying3 g1
      obtain ⟨n2, q2, _, w2⟩ := DataW.trod_int Tryd.underlying3 g2
      obtain ⟨n3, q3, _, w3⟩ := DataW.trod_int Tryd.underlying3 g3
      simp only [List.cons.injEq, and_true] at q0 q1 q2 q3
      subst q0; subst q1; subst q2; subst q3
      refine ⟨n0, n1, n2, n3, by simpa using e0, by simpa using e1, by simpa using e2, by simpa using e3, fun n hn => ?_⟩
      simp only [List.mem_cons, List.not_mem_nil, or_false] at hn
      rcases hn with rfl | rfl | rfl | rfl
      · exact wf_range w0
      · exact wf_range w1
      · exact wf_range w2
      · exact wf_range w3

def pcRange (p : Pc) : Prop := ∀ n ∈ [p.m, p.j, p.f, p.t], -9223372036854775808 ≤ n ∧ n ≤ 9223372036854775807
theorem rowPcs {w : World} {a : Option Addr} {len cap : Nat} (h : Row_pcs w a len cap) : ∃ l : List Pc, len = l.length ∧ Pcs w a l ∧ l.length ≤ cap ∧ l.length ≤ 9223372036854775807 ∧ ∀ p ∈ l, pcRange p := by
  rcases h with ⟨rfl, rfl, rfl⟩ | ⟨x, rfl, hl, hm, hc⟩
  · exact ⟨[], rfl, .inl rfl, Nat.le_refl _, by simp, by simp⟩
  · have each : ∀ i, i < len → ∃ q : Int × Int × Int × Int, w.cell? (x.add (i * 4)) = some (.int .i64 q.1) ∧ w.cell? (x.add (i * 4 + 1)) = some (.int .i64 q.2.1) ∧ w.cell? (x.add (i * 4 + 2)) = some (.int .i64 q.2.2.1) ∧ w.cell? (x.add (i * 4 + 3)) = some (.int .i64 q.2.2.2) ∧ ∀ n ∈ [q.1, q.2.1, q.2.2.1, q.2.2.2], -9223372036854775808 ≤ n ∧ n ≤ 9223372036854775807 := fun i hi => by
      obtain ⟨m, j, f, t, h⟩ := hc i hi
      exact ⟨(m, j, f, t), h⟩
    obtain ⟨q, hq⟩ := choose_lt each
    unfold maxLen at hm
    refine ⟨(List.range len).map fun i => ⟨(q i).1, (q i).2.1, (q i).2.2.1, (q i).2.2.2⟩, by simp, ?_, by simpa using hl, by simp; omega, fun p hp => ?_⟩
    · by_cases h0 : len = 0
      · subst h0; exact .inl rfl
      · obtain ⟨b, off, spot⟩ := x
        have h0' := (hq 0 (by omega)).1
        have hsp : spot = none := by simpa [Addr.add] using World.cell?_spot h0'
        subst hsp
        refine .inr ⟨b, off, rfl, ?_, fun i hi => ?_⟩
        · have := World.block_lt_of_cell? w _ h0'
          simpa [Addr.add] using this
        · have hi' : i < len := by simpa using hi
          obtain ⟨e0, e1, e2, e3, _⟩ := hq i hi'
          have hadd : ∀ j, (⟨b, off, none⟩ : Addr).add j = ⟨b, off + j, none⟩ := fun j => by unfold Addr.add; split <;> simp_all
          rw [hadd] at e0 e1 e2 e3
          have hg : ((List.range len).map fun i => (⟨(q i).1, (q i).2.1, (q i).2.2.1, (q i).2.2.2⟩ : Pc)).getD i p0 = ⟨(q i).1, (q i).2.1, (q i).2.2.1, (q i).2.2.2⟩ := by
            rw [List.getD_eq_getElem?_getD, List.getElem?_eq_getElem hi]; simp
          rw [hg]
          exact ⟨e0, by rw [Nat.add_assoc]; exact e1, by rw [Nat.add_assoc]; exact e2, by rw [Nat.add_assoc]; exact e3⟩
    · obtain ⟨i, hi, rfl⟩ := List.mem_map.1 hp
      exact (hq i (List.mem_range.1 hi)).2.2.2.2
end Go.Proofs.YtomgcfjdmoefgaaDoor
