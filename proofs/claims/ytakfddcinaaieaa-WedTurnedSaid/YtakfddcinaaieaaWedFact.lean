/- WALKS: the closed fact; the law WedStable. -/
import Derived.Test.YtakfddcinaaieaaWedLaws
import Derived.Test.YtakfddcinaaieaaMatOpen
namespace Go.Proofs.Ytakfddcinaaieaa
open Go Go.RowKit WedPlain

theorem mat_two (w : World) (T Ti : TypeId) (r1 r2 : List Int) (g1 g2 : Nat) (k1 : Row w g1 Ti r1) (k2 : Row w g2 Ti r2) (l1 : r1.length = 2) (l2 : r2.length = 2) (g : Nat)
    (h : w.heap[g]? = some (.cells #[.slice (some ⟨g1, 0, none⟩) 2 2, .slice (some ⟨g2, 0, none⟩) 2 2] T (0, 0))) : Mat w (some ⟨g, 0, none⟩) [r1, r2] := by
  refine .inr ⟨g, 0, rfl, lt_of_block h, fun i hi => ?_⟩
  have hi : i < 2 := hi
  have : i = 0 ∨ i = 1 := by omega
  rcases this with rfl | rfl
  · refine ⟨some ⟨g1, 0, none⟩, 2, ?_, k1.ints, ?_⟩
    · show w.cell? ⟨g, 0, none⟩ = some (.slice (some ⟨g1, 0, none⟩) r1.length 2)
      rw [l1]; simp [World.cell?, h]
    · show r1.length ≤ _
      omega
  · refine ⟨some ⟨g2, 0, none⟩, 2, ?_, k2.ints, ?_⟩
    · show w.cell? ⟨g, 1, none⟩ = some (.slice (some ⟨g2, 0, none⟩) r2.length 2)
      rw [l2]; simp [World.cell?, h]
    · show r2.length ≤ _
      omega
theorem heap_alloc_at (w : World) (c : Array Value) (t : TypeId) (k : Nat) (h : k = w.heap.size) : (w.alloc (.cells c t)).heap[k]? = some (.cells c t (0, 0)) := by subst h; exact heap_alloc_new _ _
theorem fact_world (w W : World) (h : W = ((((((w.alloc (Obj.cells #[Value.int IntKind.i64 0, Value.int IntKind.i64 1] 3)).alloc (Obj.cells #[Value.int IntKind.i64 0, Value.int IntKind.i64 1] 3)).alloc (Obj.cells #[Value.slice (some ⟨w.heap.size, 0, none⟩) 2 2, Value.slice (some ⟨w.heap.size + 1, 0, none⟩) 2 2] 23)).alloc (Obj.cells #[Value.int IntKind.i64 1, Value.int IntKind.i64 0] 3)).alloc (Obj.cells #[Value.int IntKind.i64 0, Value.int IntKind.i64 1] 3)).alloc (Obj.cells #[Value.slice (some ⟨w.heap.size + 1 + 1 + 1, 0, none⟩) 2 2, Value.slice (some ⟨w.heap.size + 1 + 1 + 1 + 1, 0, none⟩) 2 2] 23))) :
    Mat W (some ⟨w.heap.size + 1 + 1, 0, none⟩) fA ∧ Mat W (some ⟨w.heap.size + 1 + 1 + 1 + 1 + 1, 0, none⟩) fB ∧ Below w.heap.size w W := by
  have r0 : Row W w.heap.size 3 [0, 1] := by
    unfold Row
    rw [h, Below.heap_alloc _ _ _ (by simp <;> omega), Below.heap_alloc _ _ _ (by simp <;> omega), Below.heap_alloc _ _ _ (by simp <;> omega), Below.heap_alloc _ _ _ (by simp <;> omega), Below.heap_alloc _ _ _ (by simp)]
    exact heap_alloc_at _ _ _ _ rfl
  have r1 : Row W (w.heap.size + 1) 3 [0, 1] := by
    unfold Row
    rw [h, Below.heap_alloc _ _ _ (by simp <;> omega), Below.heap_alloc _ _ _ (by simp <;> omega), Below.heap_alloc _ _ _ (by simp <;> omega), Below.heap_alloc _ _ _ (by simp)]
    exact heap_alloc_at _ _ _ _ (by simp)
  have r2 : W.heap[w.heap.size + 1 + 1]? = some (.cells #[Value.slice (some ⟨w.heap.size, 0, none⟩) 2 2, Value.slice (some ⟨w.heap.size + 1, 0, none⟩) 2 2] 23 (0, 0)) := by
    rw [h, Below.heap_alloc _ _ _ (by simp <;> omega), Below.heap_alloc _ _ _ (by simp <;> omega), Below.heap_alloc _ _ _ (by simp)]
    exact heap_alloc_at _ _ _ _ (by simp)
  have r3 : Row W (w.heap.size + 1 + 1 + 1) 3 [1, 0] := by
    unfold Row
    rw [h, Below.heap_alloc _ _ _ (by simp <;> omega), Below.heap_alloc _ _ _ (by simp)]
    exact heap_alloc_at _ _ _ _ (by simp)
  have r4 : Row W (w.heap.size + 1 + 1 + 1 + 1) 3 [0, 1] := by
    unfold Row
    rw [h, Below.heap_alloc _ _ _ (by simp)]
    exact heap_alloc_at _ _ _ _ (by simp)
  have r5 : W.heap[w.heap.size + 1 + 1 + 1 + 1 + 1]? = some (.cells #[Value.slice (some ⟨w.heap.size + 1 + 1 + 1, 0, none⟩) 2 2, Value.slice (some ⟨w.heap.size + 1 + 1 + 1 + 1, 0, none⟩) 2 2] 23 (0, 0)) := by
    rw [h]
    exact heap_alloc_at _ _ _ _ (by simp)
  refine ⟨mat_two W _ _ _ _ _ _ r0 r1 rfl rfl _ r2, mat_two W _ _ _ _ _ _ r3 r4 rfl rfl _ r5, ?_⟩
  rw [h]
  exact ((((((Below.refl _ _).alloc (Nat.le_refl _) _).alloc (by simp) _).alloc (by simp; omega) _).alloc (by simp; omega) _).alloc (by simp; omega) _).alloc (by simp; omega) _
set_option maxHeartbeats 1000000 in
theorem wedFact_any (w : World) : Calls Try.prog 4 #[] w fun e w' => e = .returned (.bool true) ∧ Below w.heap.size w w' := by
  go_enter Try.func4, Try.ntmps4
  go_wp2_with fail
  obtain ⟨hA, hB, hb⟩ := fact_world w _ rfl
  refine (Match_any fA fB _ _ 2 2 _ hA hB (by decide) (by decide)).mono ?_
  rintro e w1 ⟨⟨hf, asked, has, g, I, rfl, hI, hg⟩ | ⟨hf, k, hk, rfl⟩, b1⟩
  rotate_left
  · exact absurd f_fine hf
  have b01 := hb.trans (b1.mono hb.size)
  rw [f_match I] at hI
  have HI := Lib.hid hI
  clear hI I hf hA hB hb b1 hg
  have e2 : fA.length = 2 := rfl
  rw [e2]
  clear e2
  go_wp2_with fail
  have hr2 : Row (w1.alloc (.cells #[.int .i64 1, .int .i64 0] 3)) w1.heap.size 3 [1, 0] := heap_alloc_new w1 _
  refine (Ints_any [1, 0] [1, 0] (some ⟨g, 0, none⟩) (some ⟨w1.heap.size, 0, none⟩) 2 2 _ (HI.out.below ((Below.refl _ _).alloc (Nat.le_refl _) _)) hr2.ints (by decide)).mono ?_
  rintro e w2 ⟨rfl, n, rfl⟩
  have es : sameB [1, 0] [1, 0] = true := by decide
  rw [es]
  go_wp2
  go_ret
  exact ⟨rfl, drewN_below (b01.alloc b01.size _) n⟩

theorem at_quiet (xs : List Int) (v : Int) (a : Option Addr) (cap : Nat) (w : World) (hx : Ints w a xs) (hl : xs.length ≤ 9223372036854775807) (n : Nat) :
    Calls Try.prog 6 #[.slice a xs.length cap, .int .i64 v] (w.drewN n) fun e w' => e = .returned (.int .i64 (xs.idxOf v : Nat)) ∧ w' = w.drewN n := at_any xs v a cap _ (hx.drewN n) hl
/-- a row of what came in -/
theorem mat_at {w : World} {b off n i : Nat} {m : List (List Int)} (h : Mat w (some ⟨b, off, none⟩) m) (hs : Side n m) (hi : i < m.length) (hn : 0 < n) :
    ∃ ai ci, w.cell? ⟨b, off + i, none⟩ = some (.slice ai n ci) ∧ Ints w ai (m.getD i []) := by
  obtain ⟨b', off', e, _, hc⟩ := h.open (by omega)
  simp only [Option.some.injEq, Addr.mk.injEq, and_true] at e
  obtain ⟨rfl, rfl⟩ := e
  obtain ⟨ai, ci, c1, c2, _⟩ := hc i hi
  rw [(hs i hi).len] at c1
  exact ⟨ai, ci, c1, c2⟩

end Go.Proofs.Ytakfddcinaaieaa
