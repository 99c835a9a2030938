/- WALK: strings.Split at a space; strings.LastIndexByte. -/
import Derived.Test.YtalnepcbaegaeaaDoorBkNum
import Derived.Test.YtalnepcbaegaeaaDoorSpPlain
set_option linter.unusedVariables false
set_option linter.unusedSimpArgs false
namespace Go.Proofs.YtalnepcbaegaeaaDoor
open Go Go.RowKit NumPlain SpPlain

theorem split_any (s : ByteArray) (w : World) (h : MaxL w) (hs : s.size < 4294967281) :
    Calls Tryd.prog 54 #[.string s, .string ⟨#[32]⟩] w fun e w' => ∃ g, e = .returned (.slice (some ⟨g, 0, none⟩) (splitSp s.data.toList).length (splitSp s.data.toList).length) ∧
      (∀ i, i < (splitSp s.data.toList).length → w'.cell? ⟨g, i, none⟩ = some (.string ⟨((splitSp s.data.toList).getD i []).toArray⟩)) ∧ Below w.heap.size w w' := by
  obtain ⟨m, hm⟩ := h
  have h1 : 1 ≤ (⟨#[32]⟩ : ByteArray).size := by decide
  have hw := words_is s
  have hl : (splitSp s.data.toList).length = Lib.countB s ⟨#[32]⟩ + 1 := by
    rw [← hw, List.length_map]
    exact Lib.splitB_all ⟨#[32]⟩ h1 0 _ s rfl
  refine (Any.strings_Split { si_laysM146 with } si_laysM146.i9 s ⟨#[32]⟩ m w hs hm h1).mono ?_
  rintro e w' ⟨rfl, rfl⟩
  refine ⟨w.heap.size, by rw [hl], fun i hi => ?_, (Below.refl _ w).alloc (Nat.le_refl _) _⟩
  have hn := heap_alloc_new w (.cells ((Lib.splitB ⟨#[32]⟩ 0 (Lib.countB s ⟨#[32]⟩) s).map Value.string).toArray (si_laysM146_ren.t 9))
  have hi2 : i < (Lib.splitB ⟨#[32]⟩ 0 (Lib.countB s ⟨#[32]⟩) s).length := by rw [← hw, List.length_map] at hi; exact hi
  unfold World.cell?
  simp only [hn]
  simp only [List.getElem?_toArray, List.getElem?_map, List.getElem?_eq_getElem hi2, Option.map_some]
  rw [← hw, List.getD_eq_getElem?_getD, List.getElem?_map, List.getElem?_eq_getElem hi2]
  rfl
theorem last_any (s : List UInt8) (hs : s.length < 4611686018427387904) (w : World) :
    Calls Tryd.prog 52 #[.string ⟨s.toArray⟩, .int .u8 32] w fun e w' => e = .returned (.int .i64 (Lib.lastIndexByte ⟨s.toArray⟩ 32)) ∧ w = w' :=
  (si_strings_LastIndexByte ⟨s.toArray⟩ 32 (by simpa [ByteArray.size] using hs) w).mono fun e w' ⟨h, h'⟩ => ⟨h, h'.symm⟩
end Go.Proofs.YtalnepcbaegaeaaDoor
