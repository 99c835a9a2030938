/- WALK: rows of numbers of the call's own. -/
import Derived.Test.YtdalffmmkhcdaaaEvRow
import Derived.Test.YtdalffmmkhcdaaaRows
import Derived.OwnWalk
import Derived.Maps.AppendAt
set_option linter.unusedVariables false
set_option linter.unusedSimpArgs false
namespace Go.Proofs.Ytdalffmmkhcdaaa
open Go Go.RowKit

/-- a row of the call's own, grown by append -/
def Own (w : World) (B : Nat) (E : TypeId) (a : Option Addr) (cap : Nat) (xs : List Int) : Prop := w.ownsRow B E 1 (.slice a xs.length cap) xs.length (xs.map (Value.int .i64))
theorem Own.ints {w : World} {B : Nat} {E : TypeId} {a : Option Addr} {cap : Nat} {xs : List Int} (h : Own w B E a cap xs) : Ints w a xs := by
  by_cases h0 : 0 < xs.length
  · obtain ⟨g, c, hv, _, _, hi⟩ := owns_ints h h0
    simp only [Value.slice.injEq] at hv
    rw [hv.1]; exact hi
  · exact .inl (List.eq_nil_of_length_eq_zero (by omega))
theorem Own.open {w : World} {B : Nat} {E : TypeId} {a : Option Addr} {cap : Nat} {xs : List Int} (h : Own w B E a cap xs) (h0 : 0 < xs.length) :
    ∃ g, a = some ⟨g, 0, none⟩ ∧ B ≤ g ∧ g < w.heap.size ∧ (∀ i, i < xs.length → w.cell? ⟨g, i, none⟩ = some (.int .i64 (xs.getD i 0))) ∧ ∀ i, w.frozen? ⟨g, i, none⟩ = false := by
  obtain ⟨g, c, hv, hb, hg, hi⟩ := owns_ints h h0
  simp only [Value.slice.injEq] at hv
  obtain ⟨rfl, -, rfl⟩ := hv
  refine ⟨g, rfl, hb, hg, fun i hil => ?_, fun i => World.ownsRow.frozenAt h i⟩
  rcases hi with rfl | ⟨b, off, he, hc⟩
  · simp at h0
  · simp only [Option.some.injEq, Addr.mk.injEq, and_true] at he
    obtain ⟨rfl, rfl⟩ := he
    have := hc i hil
    rwa [Nat.zero_add] at this
theorem Own.set {w : World} {B : Nat} {E : TypeId} {g cap : Nat} {xs : List Int} (h : Own w B E (some ⟨g, 0, none⟩) cap xs) (i : Nat) (v : Int) :
    Own (w.setCell ⟨g, i, none⟩ (.int .i64 v)) B E (some ⟨g, 0, none⟩) cap (xs.set i v) := by
  have := (World.ownsRow.stored h i (.int .i64 v)).1
  unfold Own
  rw [List.length_set, List.map_set]; exact this
theorem Own.alloc {w : World} {B : Nat} {E : TypeId} {a : Option Addr} {cap : Nat} {xs : List Int} (h : Own w B E a cap xs) (o : Obj) : Own (w.alloc o) B E a cap xs := World.ownsRow.alloc h o
theorem Own.drew {w : World} {B : Nat} {E : TypeId} {a : Option Addr} {cap : Nat} {xs : List Int} (h : Own w B E a cap xs) : Own w.drew B E a cap xs := h
theorem Own.drewN {w : World} {B : Nat} {E : TypeId} {a : Option Addr} {cap : Nat} {xs : List Int} (h : Own w B E a cap xs) (n : Nat) : Own (w.drewN n) B E a cap xs := h
theorem Own.below {w : World} {B : Nat} {E : TypeId} {a : Option Addr} {cap : Nat} {xs : List Int} (h : Own w B E a cap xs) {p : Addr} (hp : p.block < B) (v : Value) : Own (w.setCell p v) B E a cap xs :=
  ownsRow_setCell_below h hp v
theorem Own.of {w : World} {B : Nat} {E : TypeId} {v : Value} {n : Nat} {xs : List Int} (h : w.ownsRow B E 1 v n (xs.map (Value.int .i64))) : ∃ a cap, v = .slice a xs.length cap ∧ Own w B E a cap xs := by
  have hn : n = xs.length := by simpa using h.1.symm
  subst hn
  rcases h.2 with ⟨rfl, h0⟩ | ⟨g, cap, cur, rfl, _⟩
  · exact ⟨none, 0, by rw [h0], by unfold Own; rw [h0] at h ⊢; exact h⟩
  · exact ⟨_, _, rfl, h⟩
theorem Own.size {w : World} {B : Nat} {E : TypeId} {g cap : Nat} {xs : List Int} (h : Own w B E (some ⟨g, 0, none⟩) cap xs) : ∃ cur : Array Value, w.heap[g]? = some (.cells cur E (0, 0)) ∧ xs.length ≤ cur.size := by
  rcases h.2 with ⟨h', _⟩ | ⟨g', cap', cur, h', _, hg, hc, _, hs, _⟩
  · simp at h'
  · simp only [Value.slice.injEq, Option.some.injEq, Addr.mk.injEq, and_true, true_and] at h'
    obtain ⟨rfl, rfl⟩ := h'
    exact ⟨cur, hg, by omega⟩
theorem Own.mono {w : World} {B B' : Nat} {E : TypeId} {a : Option Addr} {cap : Nat} {xs : List Int} (h : Own w B E a cap xs) (hB : B' ≤ B) : Own w B' E a cap xs := by
  refine ⟨h.1, ?_⟩
  rcases h.2 with h | ⟨g, c, cur, h1, h2, h3⟩
  · exact .inl h
  · exact .inr ⟨g, c, cur, h1, by omega, h3⟩
theorem Own.nil (w : World) (B : Nat) (E : TypeId) : Own w B E none 0 [] := World.ownsRow_nil _ _ _ _
theorem Own.lt {w : World} {B : Nat} {E : TypeId} {a : Option Addr} {cap : Nat} {xs : List Int} (h : Own w B E a cap xs) : ∀ k, (Value.slice a xs.length cap).ownBlock = some k → B ≤ k ∧ k < w.heap.size := World.ownsRow.lt h
theorem Own.same {w w' : World} {B : Nat} {E : TypeId} {a : Option Addr} {cap : Nat} {xs : List Int} (h : Own w B E a cap xs) (hw : ∀ k, (Value.slice a xs.length cap).ownBlock = some k → w'.heap[k]? = w.heap[k]?) : Own w' B E a cap xs := by
  refine ⟨h.1, ?_⟩
  rcases h.2 with h2 | ⟨g, cap', cur, h', hb, hg, hr⟩
  · exact .inl h2
  · refine .inr ⟨g, cap', cur, h', hb, ?_, hr⟩
    rw [hw g (by rw [h']; rfl)]; exact hg
theorem Own.take {w : World} {B : Nat} {E : TypeId} {a : Option Addr} {cap : Nat} {xs : List Int} (h : Own w B E a cap xs) (n : Nat) (hn : n ≤ xs.length) (h0 : 0 < xs.length) : Own w B E a cap (xs.take n) := by
  have hl : (xs.take n).length = n := by rw [List.length_take, Nat.min_eq_left hn]
  unfold Own
  rw [hl]
  rcases h.2 with ⟨h', hz⟩ | ⟨g, cap', cur, h', hb, hg, hc, hm, hs, ht⟩
  · omega
  · simp only [Value.slice.injEq, true_and] at h'
    obtain ⟨rfl, rfl⟩ := h'
    refine ⟨by rw [List.length_map, hl, Nat.mul_one], .inr ⟨g, cap, cur, rfl, hb, hg, by omega, hm, hs, ?_⟩⟩
    rw [List.map_take, ← ht, List.take_take, Nat.min_eq_left (by omega), Nat.mul_one]

end Go.Proofs.Ytdalffmmkhcdaaa
