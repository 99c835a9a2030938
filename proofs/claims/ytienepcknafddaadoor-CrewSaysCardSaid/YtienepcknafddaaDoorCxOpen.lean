/- WALK: a slice of items that came in, opened: the items with their places as stamps; it does not lie in errors.errorType. -/
import Derived.Test.YtienepcknafddaaDoorCxSays
import Derived.Deep.Slices
import Derived.WideShapes
set_option linter.unusedVariables false
set_option linter.unusedSimpArgs false
namespace Go.Proofs.YtienepcknafddaaDoor
open Go Go.RowKit Go.Deep Go.ChangeShapes Go.WideShapes SimPlain

def Row_its (w : World) (a : Option Addr) (len cap : Nat) : Prop :=
  (a = none ∧ len = 0 ∧ cap = 0) ∨ ∃ x, a = some x ∧ len ≤ cap ∧ cap ≤ maxLen ∧ ∀ i, i < len → ∃ m j : Int,
    w.cell? (x.add (i * 2)) = some (.int .i64 m) ∧ w.cell? (x.add (i * 2 + 1)) = some (.int .i64 j)
set_option maxRecDepth 100000 in
theorem open_its {H : Type} {enc : TypeId × Value → H} {w : World} {spare : Nat → Bool} {held : Bool} {fuel : Nat} {a : Option Addr} {len cap : Nat} {x : DataW H × List MemPlace}
    (h : DataW.trod enc Tryd.prog w 0 spare held fuel 22 (Value.cells (.slice a len cap)).toList = some x) : Row_its w a len cap := by
  have ce : Tryd.prog.cellsOf 34 = 2 := by kernel_rfl
  have c3 : Tryd.prog.cellsOf 3 = 1 := by kernel_rfl
  rcases open_slice Tryd.underlying22 h with ⟨hc, _⟩ | ⟨y, l, c, m, n, D, Pl, hc, _, hl, hm, hmm, _, hx⟩
  · simp [Value.cells] at hc
    exact .inl hc
  · simp [Value.cells] at hc
    obtain ⟨rfl, rfl, rfl⟩ := hc
    refine .inr ⟨y, rfl, hl, hm, fun i hi => ?_⟩
    have hlm : len ≤ m := by rw [hmm]; split <;> omega
    obtain ⟨cs', h1, h2⟩ := hx i (by omega)
    rw [ce] at h1
    obtain ⟨_, hlen, hcell⟩ := World.cells?_some h1
    obtain ⟨xs, k, hk, hxy, _, hxl, hf⟩ := DataW.trod_struct Tryd.underlying34 h2
    match xs, hxl, cs', hlen with
    | [y0, y1], _, [v0, v1], _ =>
      have g0 := hf 0 _ rfl
      have g1 := hf 1 _ rfl
      simp [c3] at g0 g1
      have e0 := hcell 0 (by omega)
      have e1 := hcell 1 (by omega)
      rw [add_add] at e0 e1
      obtain ⟨n0, q0, _, w0⟩ := DataW.trod_int Tryd.underlying3 g0
      obtain ⟨n1, q1, _, w1⟩ := DataW.trod_int Tryd.underlying3 g1
      simp only [List.cons.injEq, and_true] at q0 q1
      subst q0; subst q1
      exact ⟨n0, n1, by simpa using e0, by simpa using e1⟩
/-- a list of items does not lie in a variable of an interface's type -/
theorem no_same : sameLayout Tryd.prog Tryd.prog.depth 91 34 = false := by kernel_rfl
theorem rowAt_no {fits : TypeId → Bool} (hf : fits 91 = false) (d count off n : Nat) : rowAt Tryd.prog fits d 91 count off n = false := by
  cases d with
  | zero => rfl
  | succ d =>
    unfold rowAt
    simp [hf, Tryd.underlying91]
theorem liesAt_no (d count off n : Nat) : liesAt Tryd.prog d 91 count off 34 n = false := by
  cases d with
  | zero => rfl
  | succ d =>
    unfold liesAt
    rw [rowAt_no (fits := fun t => sameLayout Tryd.prog Tryd.prog.depth t 34) no_same]
    simp [Tryd.underlying34]
set_option maxRecDepth 100000 in
/-- what a slice that comes in lies in -/
theorem okWide_lies {w : World} {base : Nat} {x : Addr} {len cap : Nat} (h : Value.okWide Tryd.prog w .any base 22 (.slice (some x) len cap)) (hsh : w.ShapedOpen Tryd.prog) : x.spot = none ∧ CellsAt w x.block ∧ Tryd.prog.globals.size ≤ x.block := by
  simp only [Value.okWide, Tryd.underlying22, Cell.okWide, Cell.ok] at h
  obtain ⟨_, _, _, hs, row, cells, hsp, hl⟩ := h
  have gz : Tryd.prog.globals.size = 1 := by kernel_rfl
  have hc : CellsAt w x.block := by
    have hsp' := hsp
    unfold World.shape? at hsp'
    split at hsp'
    · exact ⟨_, _, _, by assumption⟩
    · cases hsp'
  refine ⟨hs, hc, ?_⟩
  rw [gz]
  refine Nat.pos_of_ne_zero fun e => ?_
  obtain ⟨zero, t, hz, ht⟩ : ∃ zero t, (((begin Tryd.prog (fun _ _ => 0) default).world.heap[0]?).bind Obj.row?) = some (zero, t) ∧ t = 91 := ⟨#[.nilIface], _, by kernel_rfl, rfl⟩
  obtain ⟨cs, h0, _⟩ := hsh.1 0 zero t (by rw [gz]; exact Nat.one_pos) hz
  subst ht
  rw [e] at hsp
  unfold World.shape? at hsp
  rw [h0] at hsp
  simp only [Option.some.injEq, Prod.mk.injEq] at hsp
  obtain ⟨rfl, _⟩ := hsp
  rw [liesAt_no] at hl
  cases hl
theorem row_its {w : World} {a : Option Addr} {len cap : Nat} (h : Row_its w a len cap) (hk : ∀ x, a = some x → x.spot = none ∧ CellsAt w x.block ∧ Tryd.prog.globals.size ≤ x.block) : ∃ (b off : Nat) (l : List Ev), len = l.length ∧ ArgF ⟨w, fun x => x < w.heap.size⟩ a b off cap l ∧ l.Pairwise Bef := by
  rcases h with ⟨rfl, rfl, rfl⟩ | ⟨x, rfl, hl, hm, hc⟩
  · exact ⟨0, 0, [], rfl, ⟨.inr ⟨rfl, rfl, rfl⟩, .inl rfl, fun e => (by cases e), by simp, by simp⟩, .nil⟩
  · have each : ∀ i, i < len → ∃ q : Int × Int, w.cell? (x.add (i * 2)) = some (.int .i64 q.1) ∧ w.cell? (x.add (i * 2 + 1)) = some (.int .i64 q.2) := fun i hi => by
      obtain ⟨m, j, h⟩ := hc i hi
      exact ⟨(m, j), h⟩
    obtain ⟨q, hq⟩ := choose_lt each
    unfold maxLen at hm
    obtain ⟨b, off, spot⟩ := x
    obtain ⟨hsp, hcl, hgl⟩ := hk _ rfl
    simp only at hsp hcl hgl
    subst hsp
    have hb : b < w.heap.size := by
      obtain ⟨c, t, fr, e⟩ := hcl
      exact (Array.getElem?_eq_some_iff.1 e).1
    refine ⟨b, off, (List.range len).map fun i => { t := (q i).1, id := (q i).2, s := i }, by simp, ⟨.inl rfl, ?_, fun e => ⟨hb, hcl, hgl⟩, by simp; omega, by simp; omega⟩, ?_⟩
    · refine .inr ⟨b, off, rfl, hb, fun i hi => ?_⟩
      have hi' : i < len := by simpa using hi
      obtain ⟨q0, q1⟩ := hq i hi'
      have hadd : ∀ j, (⟨b, off, none⟩ : Addr).add j = ⟨b, off + j, none⟩ := fun j => by unfold Addr.add; split <;> simp_all
      rw [hadd] at q0 q1
      have hg : ((List.range len).map fun i => ({ t := (q i).1, id := (q i).2, s := i } : Ev)).getD i e0 = { t := (q i).1, id := (q i).2, s := i } := by
        rw [List.getD_eq_getElem?_getD, List.getElem?_eq_getElem hi]; simp
      rw [hg]
      exact ⟨q0, by rw [Nat.add_assoc]; exact q1⟩
    · refine List.pairwise_map.2 (List.Pairwise.imp (fun {a b} h => ?_) (List.pairwise_lt_range))
      simp only [Bef]
      omega
end Go.Proofs.YtienepcknafddaaDoor
