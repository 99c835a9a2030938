/- WALK: the document's act, what its kinds share. -/
import Derived.Test.YtfejlkgddnamoaaGreatDoorDocAct
import Derived.Test.YtfejlkgddnamoaaGreatDoorDeskLine
set_option linter.unusedVariables false
set_option linter.unusedSimpArgs false
namespace Go.Proofs.YtfejlkgddnamoaaGreatDoor
open Go Go.RowKit SimPlain HeapPlain BookPlain NumPlain SpPlain LinesPlain

def DActRes (r : St × List UInt8) (w : World) (e : Ending) (w' : World) : Prop :=
  (∃ a c l, e = .returned (.tuple #[docV r.1 a c l, .string ⟨r.2.toArray⟩]) ∧ DocS w' r.1 a c l) ∧ Below w.heap.size w w'
theorem dact_fin {w W : World} {a : Option Addr} {c : Nat} {l : List Ev} {b1 : Nat} {cs : Array Value} {r : St × List UInt8} (hb : w.heap.size ≤ b1) (low : Below w.heap.size w W) (h : DocS W r.1 a c l) (h1 : W.heap[b1]? = some (.cells cs 78 (0, 0))) (V : World) (o : Only W V (fun j => j = b1))
    (e : Ending) (he : e = .returned (.tuple #[docV r.1 a c l, .string ⟨r.2.toArray⟩])) : DActRes r w e V :=
  ⟨⟨a, c, l, he, h.book h1 o⟩, low.trans (o.below low.size (fun k c => by omega))⟩
theorem two_sets (W : World) (b : Nat) (v0 v1 : Value) : Only W ((W.setCell ⟨b, 0, none⟩ v0).setCell ⟨b, 1, none⟩ v1) (fun j => j = b) :=
  (Only.setCell W ⟨b, 0, none⟩ v0 (fun j => j = b) rfl).trans (Only.setCell _ ⟨b, 1, none⟩ v1 (fun j => j = b) rfl) (fun _ _ c => c)
/-- the two boxes at the beginning -/
def ActW (w : World) (v0 v1 : Value) : World := (w.alloc (.cells #[v0, v1] 78)).alloc (.cells #[.slice none 0 0, .string ⟨#[]⟩] 78)
structure ActB (w : World) (v0 v1 : Value) (W : World) : Prop where
  b0 : W.heap[w.heap.size]? = some (.cells #[v0, v1] 78 (0, 0))
  b1 : W.heap[w.heap.size + 1]? = some (.cells #[.slice none 0 0, .string ⟨#[]⟩] 78 (0, 0))
  low : Below w.heap.size w W
theorem ActB.start (w : World) (v0 v1 : Value) : ActB w v0 v1 (ActW w v0 v1) := by
  have h := heap_alloc_new (w.alloc (.cells #[v0, v1] 78)) (.cells #[.slice none 0 0, .string ⟨#[]⟩] 78)
  rw [World.size_alloc] at h
  exact ⟨by unfold ActW; rw [Below.heap_alloc _ _ _ (by simp)]; exact heap_alloc_new _ _, h, ((Below.refl _ w).alloc (Nat.le_refl _) _).alloc (by simp) _⟩
theorem ActB.to {w W W' : World} {v0 v1 : Value} (h : ActB w v0 v1 W) (b : Below W.heap.size W W') : ActB w v0 v1 W' :=
  ⟨(b.block _ (lt_of_block h.b0)).trans h.b0, (b.block _ (lt_of_block h.b1)).trans h.b1, h.low.trans (b.mono h.low.size)⟩
theorem ActB.c0 {w W : World} {v0 v1 : Value} (h : ActB w v0 v1 W) : W.cell? ⟨w.heap.size, 0, none⟩ = some v0 := by have := h.b0; simp [World.cell?, this]
theorem ActB.c1 {w W : World} {v0 v1 : Value} (h : ActB w v0 v1 W) : W.cell? ⟨w.heap.size, 1, none⟩ = some v1 := by have := h.b0; simp [World.cell?, this]
theorem ActB.d0 {w W : World} {v0 v1 : Value} (h : ActB w v0 v1 W) : W.cell? ⟨w.heap.size + 1, 0, none⟩ = some (.slice none 0 0) := by have := h.b1; simp [World.cell?, this]
theorem ActB.d1 {w W : World} {v0 v1 : Value} (h : ActB w v0 v1 W) : W.cell? ⟨w.heap.size + 1, 1, none⟩ = some (.string ⟨#[]⟩) := by have := h.b1; simp [World.cell?, this]
theorem ActB.f {w W : World} {v0 v1 : Value} (h : ActB w v0 v1 W) (o : Nat) : W.frozen? ⟨w.heap.size + 1, o, none⟩ = false := by have := h.b1; simp [World.frozen?, this]
end Go.Proofs.YtfejlkgddnamoaaGreatDoor
