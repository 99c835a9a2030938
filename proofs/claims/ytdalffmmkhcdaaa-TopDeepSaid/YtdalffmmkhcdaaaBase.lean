import Derived.WalkKit
import Derived.WalkSpells
import Derived.WalkLawsBesides
import Derived.Lib.Hide
import Derived.Deep.QuietTactic
import Derived.BigQuiet
import Derived.Deep.LoopGhost
import Derived.Deep.DeepCutAuto
set_option linter.unusedVariables false
set_option linter.unusedSimpArgs false
namespace Go.Proofs.Ytdalffmmkhcdaaa
open Go Go.RowKit

/-- THE SLICE AT `a` READS AS THE NUMBERS `xs` -/
def Ints (w : World) (a : Option Addr) (xs : List Int) : Prop :=
  xs = [] ∨ ∃ b off, a = some ⟨b, off, none⟩ ∧ ∀ i, i < xs.length → w.cell? ⟨b, off + i, none⟩ = some (.int .i64 (xs.getD i 0))

theorem Ints.below {w w' : World} {a : Option Addr} {xs : List Int} (h : Ints w a xs) (hb : Below w.heap.size w w') : Ints w' a xs := by
  rcases h with rfl | ⟨b, off, rfl, h⟩
  · exact .inl rfl
  · refine .inr ⟨b, off, rfl, fun i hi => ?_⟩
    have := h i hi
    rw [hb.cell (p := ⟨b, off + i, none⟩) (World.block_lt_of_cell? w _ this)]
    exact this
theorem Ints.open {w : World} {a : Option Addr} {xs : List Int} (h : Ints w a xs) (hne : 0 < xs.length) :
    ∃ b off, a = some ⟨b, off, none⟩ ∧ ∀ i, i < xs.length → w.cell? ⟨b, off + i, none⟩ = some (.int .i64 (xs.getD i 0)) := by
  rcases h with rfl | h
  · simp at hne
  · exact h

/-- a whole block of numbers -/
def Row (w : World) (g : Nat) (E : TypeId) (xs : List Int) : Prop := w.heap[g]? = some (.cells (xs.map (Value.int .i64)).toArray E (0, 0))
theorem Row.cell {w : World} {g : Nat} {E : TypeId} {xs : List Int} (h : Row w g E xs) (i : Nat) (hi : i < xs.length) : w.cell? ⟨g, i, none⟩ = some (.int .i64 (xs.getD i 0)) := by
  have h' : w.heap[g]? = _ := h
  simp [World.cell?, h', List.getElem?_eq_getElem hi]
theorem Row.free {w : World} {g : Nat} {E : TypeId} {xs : List Int} (h : Row w g E xs) (i : Nat) : w.frozen? ⟨g, i, none⟩ = false := by
  have h' : w.heap[g]? = _ := h
  simp [World.frozen?, h']
theorem Row.lt {w : World} {g : Nat} {E : TypeId} {xs : List Int} (h : Row w g E xs) : g < w.heap.size := lt_of_block h
theorem Row.set {w : World} {g : Nat} {E : TypeId} {xs : List Int} (h : Row w g E xs) (i : Nat) (v : Int) : Row (w.setCell ⟨g, i, none⟩ (.int .i64 v)) g E (xs.set i v) := by
  unfold Row
  rw [heap_setCell_same w g i _ E _ h]
  simp [List.map_set]
theorem Row.other {w : World} {g : Nat} {E : TypeId} {xs : List Int} (h : Row w g E xs) (a : Addr) (ha : g ≠ a.block) (v : Value) : Row (w.setCell a v) g E xs := by
  unfold Row
  rw [heap_setCell_other w a g v ha]; exact h
theorem Row.alloc {w : World} {g : Nat} {E : TypeId} {xs : List Int} (h : Row w g E xs) (o : Obj) : Row (w.alloc o) g E xs := by
  unfold Row
  rw [Below.heap_alloc w o g h.lt]; exact h
theorem Row.drew {w : World} {g : Nat} {E : TypeId} {xs : List Int} (h : Row w g E xs) : Row w.drew g E xs := h
theorem Row.drewN {w : World} {g : Nat} {E : TypeId} {xs : List Int} (h : Row w g E xs) (n : Nat) : Row (w.drewN n) g E xs := h
theorem Ints.drewN {w : World} {a : Option Addr} {xs : List Int} (h : Ints w a xs) (n : Nat) : Ints (w.drewN n) a xs := h
theorem drewN_below {B : Nat} {a w : World} (h : Below B a w) (n : Nat) : Below B a (w.drewN n) := ⟨h.os, h.tape, h.output, h.size, h.block⟩
theorem Row.below {w w' : World} {g : Nat} {E : TypeId} {xs : List Int} {B : Nat} (h : Row w g E xs) (hb : Below B w w') (hg : g < B) : Row w' g E xs := (hb.block g hg).trans h
theorem Row.ints {w : World} {g : Nat} {E : TypeId} {xs : List Int} (h : Row w g E xs) : Ints w (some ⟨g, 0, none⟩) xs :=
  .inr ⟨g, 0, rfl, fun i hi => by rw [Nat.zero_add]; exact h.cell i hi⟩
theorem Row.made (w : World) (E : TypeId) (n : Nat) : Row (w.alloc (.cells (madeCells #[.int .i64 0] n) E)) w.heap.size E (List.replicate n 0) := by
  unfold Row
  rw [heap_alloc_new]
  congr 2
  apply Array.ext
  · simp [madeCells]
  · intro i h1 h2; simp [madeCells, Nat.mod_one]

/-- a slice of the call's own reads as numbers -/
theorem owns_ints {w : World} {base : Nat} {E : TypeId} {v : Value} {n : Nat} {xs : List Int} (h : w.ownsRow base E 1 v n (xs.map (Value.int .i64))) (h0 : 0 < xs.length) :
    ∃ g cap, v = .slice (some ⟨g, 0, none⟩) xs.length cap ∧ base ≤ g ∧ g < w.heap.size ∧ Ints w (some ⟨g, 0, none⟩) xs := by
  obtain ⟨hl, h⟩ := h
  have hn : n = xs.length := by simpa using hl.symm
  subst hn
  rcases h with ⟨rfl, h⟩ | ⟨g, cap, cur, rfl, hb, hg, hc, hm, hs, ht⟩
  · omega
  · refine ⟨g, cap, rfl, hb, lt_of_block hg, .inr ⟨g, 0, rfl, fun i hi => ?_⟩⟩
    rw [Nat.zero_add, cell_of_row w g i cur E (0, 0) hg]
    have : (cur.toList.take (xs.length * 1))[i]? = (xs.map (Value.int .i64))[i]? := by rw [ht]
    rw [List.getElem?_take_of_lt (by omega)] at this
    rw [← Array.getElem?_toList, this, List.getElem?_map, List.getElem?_eq_getElem hi, List.getD_eq_getElem?_getD, List.getElem?_eq_getElem hi]
    rfl
theorem Ints.cellsAt {w : World} {b off : Nat} {xs : List Int} (h : ∀ i, i < xs.length → w.cell? ⟨b, off + i, none⟩ = some (.int .i64 (xs.getD i 0))) :
    ∀ j u, (xs.map (Value.int .i64))[j]? = some u → w.cell? ((⟨b, off, none⟩ : Addr).add j) = some u := by
  intro j u hu
  rw [List.getElem?_map] at hu
  by_cases hj : j < xs.length
  · rw [List.getElem?_eq_getElem hj] at hu
    have hc := h j hj
    rw [List.getD_eq_getElem?_getD, List.getElem?_eq_getElem hj] at hc
    have e : (⟨b, off, none⟩ : Addr).add j = ⟨b, off + j, none⟩ := by unfold Addr.add; split <;> simp_all
    rw [e, hc]
    simpa using hu
  · rw [List.getElem?_eq_none (by omega)] at hu; simp at hu
theorem oneCells (xs : List Int) : ∀ u ∈ xs.map (Value.int .i64), u.oneCell' = true := by
  intro u hu
  obtain ⟨x, _, rfl⟩ := List.mem_map.1 hu
  rfl

/-- of a slice of integers that came in: what it reads as -/
theorem row_ints {w : World} {a : Option Addr} {len cap : Nat} {zs : List Int} (h : (a = none ∧ len = 0 ∧ cap = 0 ∧ zs = []) ∨
    ∃ x, a = some x ∧ len ≤ cap ∧ cap ≤ maxLen ∧ zs.length = cap ∧ (∀ i, i < zs.length → w.cell? (x.add i) = some (.int .i64 (zs.getD i 0))) ∧ ∀ n ∈ zs, (Lit.int .i64 n).wf = true) :
    ∃ xs : List Int, len = xs.length ∧ Ints w a xs ∧ xs.length ≤ 9223372036854775807 ∧ ∀ n ∈ xs, -9223372036854775808 ≤ n ∧ n ≤ 9223372036854775807 := by
  rcases h with ⟨rfl, rfl, rfl, rfl⟩ | ⟨x, rfl, hl, hm, hz, hcell, hwf⟩
  · exact ⟨[], rfl, .inl rfl, by simp, by simp⟩
  · unfold maxLen at hm
    refine ⟨zs.take len, by simp; omega, ?_, by simp; omega, fun n hn => ?_⟩
    · by_cases h0 : len = 0
      · subst h0; exact .inl rfl
      · obtain ⟨b, off, spot⟩ := x
        have h0' := hcell 0 (by omega)
        have hsp : spot = none := by simpa [Addr.add] using World.cell?_spot h0'
        subst hsp
        refine .inr ⟨b, off, rfl, fun i hi => ?_⟩
        have hi' : i < len := by simp at hi; omega
        have hc := hcell i (by omega)
        have e : (⟨b, off, none⟩ : Addr).add i = ⟨b, off + i, none⟩ := by unfold Addr.add; split <;> simp_all
        rw [e] at hc
        rw [hc, List.getD_eq_getElem?_getD, List.getD_eq_getElem?_getD, List.getElem?_take_of_lt hi']
    · have := hwf n (List.mem_of_mem_take hn)
      simp [Lit.wf, IntKind.min, IntKind.max, IntKind.signed, IntKind.bits] at this
      omega

theorem emod_le_self (s v : Int) (h0 : 0 ≤ s) (h : 0 < v) : s % v ≤ s := by
  have a := Int.emod_add_mul_ediv s v
  have b := Int.mul_nonneg (show 0 ≤ v by omega) (Int.ediv_nonneg h0 (show 0 ≤ v by omega))
  omega

theorem ret_int {k : IntKind} {a b : Int} (h : a = b) : Ending.returned (.int k a) = .returned (.int k b) := by rw [h]
theorem ret_bool {a b : Bool} (h : a = b) : Ending.returned (.bool a) = .returned (.bool b) := by rw [h]
end Go.Proofs.Ytdalffmmkhcdaaa
