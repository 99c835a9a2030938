/- WALKS: the closed fact; the law WedStable. -/
import Derived.Test.YtlbonbileoioiaaWedLaws
import Derived.Test.YtlbonbileoioiaaMatOpen
namespace Go.Proofs.Ytlbonbileoioiaa
open Go Go.RowKit WedPlain

theorem mat_two (w : World) (T Ti : TypeId) (r1 r2 : List Int) (g1 g2 : Nat) (k1 : Row w g1 Ti r1) (k2 : Row w g2 Ti r2) (l1 : r1.length = 2) (l2 : r2.length = 2) (g : Nat)
    (h : w.heap[g]? = some (.cells #[.slice (some ⟨g1, 0, none⟩) 2 2, .slice (some ⟨g2, 0, none⟩) 2 2] T (0, 0))) : Mat w (some ⟨g, 0, none⟩) [r1, r2] := by
  refine .inr ⟨g, 0, rfl, lt_of_block h, fun i hi => ?_⟩
  have hi : i < 2 := hi
  have : i = 0 ∨ i = 1 := by omega
  rcases this with rfl | rfl
  · refine ⟨some ⟨g1, 0, none⟩, 2, ?_, k1.ints, ?_⟩
    · show w.cell? ⟨g, 0, none⟩ = some (.slice (some ⟨g1, 0, none⟩) r1.length 2)
      rw [l1]; simp [World.cell?, h]
    · show r1.length ≤ _
      omega
  · refine ⟨some ⟨g2, 0, none⟩, 2, ?_, k2.ints, ?_⟩
    · show w.cell? ⟨g, 1, none⟩ = some (.slice (some ⟨g2, 0, none⟩) r2.length 2)
      rw [l2]; simp [World.cell?, h]
    · show r2.length ≤ _
      omega
theorem heap_alloc_at (w : World) (c : Array Value) (t : TypeId) (k : Nat) (h : k = w.heap.size) : (w.alloc (.cells c t)).heap[k]? = some (.cells c t (0, 0)) := by subst h; exact heap_alloc_new _ _
theorem fact_world (w W : World) (h : W = ((((((w.alloc (Obj.cells #[Value.int IntKind.i64 0, Value.int IntKind.i64 1] 3)).alloc (Obj.cells #[Value.int IntKind.i64 0, Value.int IntKind.i64 1] 3)).alloc (Obj.cells #[Value.slice (some ⟨w.heap.size, 0, none⟩) 2 2, Value.slice (some ⟨w.heap.size + 1, 0, none⟩) 2 2] 24)).alloc (Obj.cells #[Value.int IntKind.i64 1, Value.int IntKind.i64 0] 3)).alloc (Obj.cells #[Value.int IntKind.i64 0, Value.int IntKind.i64 1] 3)).alloc (Obj.cells #[Value.slice (some ⟨w.heap.size + 1 + 1 + 1, 0, none⟩) 2 2, Value.slice (some ⟨w.heap.size + 1 + 1 + 1 + 1, 0, none⟩) 2 2] 24))) :
    Mat W (some ⟨w.heap.size + 1 + 1, 0, none⟩) fA ∧ Mat W (some ⟨w.heap.size + 1 + 1 + 1 + 1 + 1, 0, none⟩) fB ∧ Below w.heap.size w W := by
  have r0 : Row W w.heap.size 3 [0, 1] := by
    unfold Row
    rw [h, Below.heap_alloc _ _ _ (by simp <;> omega), Below.heap_alloc _ _ _ (by simp <;> omega), Below.heap_alloc _ _ _ (by simp <;> omega), Below.heap_alloc _ _ _ (by simp <;> omega), Below.heap_alloc _ _ _ (by simp)]
    exact heap_alloc_at _ _ _ _ rfl
  have r1 : Row W (w.heap.size + 1) 3 [0, 1] := by
    unfold Row
    rw [h, Below.heap_alloc _ _ _ (by simp <;> omega), Below.heap_alloc _ _ _ (by simp <;> omega), Below.heap_alloc _ _ _ (by simp <;> omega), Below.heap_alloc _ _ _ (by simp)]
    exact heap_alloc_at _ _ _ _ (by simp)
  have r2 : W.heap[w.heap.size + 1 + 1]? = some (.cells #[Value.slice (some ⟨w.heap.size, 0, none⟩) 2 2, Value.slice (some ⟨w.heap.size + 1, 0, none⟩) 2 2] 24 (0, 0)) := by
    rw [h, Below.heap_alloc _ _ _ (by simp <;> omega), Below.heap_alloc _ _ _ (by simp <;> omega), Below.heap_alloc _ _ _ (by simp)]
    exact heap_alloc_at _ _ _ _ (by simp)
  have r3 : Row W (w.heap.size + 1 + 1 + 1) 3 [1, 0] := by
    unfold Row
    rw [h, Below.heap_alloc _ _ _ (by simp <;> omega), Below.heap_alloc _ _ _ (by simp)]
    exact heap_alloc_at _ _ _ _ (by simp)
  have r4 : Row W (w.heap.size + 1 + 1 + 1 + 1) 3 [0, 1] := by
    unfold Row
    rw [h, Below.heap_alloc _ _ _ (by simp)]
    exact heap_alloc_at _ _ _ _ (by simp)
  have r5 : W.heap[w.heap.size + 1 + 1 + 1 + 1 + 1]? = some (.cells #[Value.slice (some ⟨w.heap.size + 1 + 1 + 1, 0, none⟩) 2 2, Value.slice (some ⟨w.heap.size + 1 + 1 + 1 + 1, 0, none⟩) 2 2] 24 (0, 0)) := by
    rw [h]
    exact heap_alloc_at _ _ _ _ (by simp)
  refine ⟨mat_two W _ _ _ _ _ _ r0 r1 rfl rfl _ r2, mat_two W _ _ _ _ _ _ r3 r4 rfl rfl _ r5, ?_⟩
  rw [h]
  exact ((((((Below.refl _ _).alloc (Nat.le_refl _) _).alloc (by simp) _).alloc (by simp; omega) _).alloc (by simp; omega) _).alloc (by simp; omega) _).alloc (by simp; omega) _
set_option maxHeartbeats 1000000 in
theorem wedFact_any (w : World) : Calls Try.prog 7 #[] w fun e w' => e = .returned (.bool true) ∧ Below w.heap.size w w' := by
  go_enter Try.func7, Try.ntmps7
  go_wp2_with fail
  obtain ⟨hA, hB, hb⟩ := fact_world w _ rfl
  refine (Match_any fA fB _ _ 2 2 _ hA hB (by decide) (by decide)).mono ?_
  rintro e w1 ⟨⟨hf, asked, has, g, I, rfl, hI, hg⟩ | ⟨hf, k, hk, rfl⟩, b1⟩
  rotate_left
  · exact absurd f_fine hf
  have b01 := hb.trans (b1.mono hb.size)
  rw [f_match I] at hI
  have HI := Lib.hid hI
  clear hI I hf hA hB hb b1 hg
  have e2 : fA.length = 2 := rfl
  rw [e2]
  clear e2
  go_wp2_with fail
  have hr2 : Row (w1.alloc (.cells #[.int .i64 1, .int .i64 0] 3)) w1.heap.size 3 [1, 0] := heap_alloc_new w1 _
  refine (Ints_any [1, 0] [1, 0] (some ⟨g, 0, none⟩) (some ⟨w1.heap.size, 0, none⟩) 2 2 _ (HI.out.below ((Below.refl _ _).alloc (Nat.le_refl _) _)) hr2.ints (by decide)).mono ?_
  rintro e w2 ⟨rfl, n, rfl⟩
  have es : sameB [1, 0] [1, 0] = true := by decide
  rw [es]
  go_wp2
  go_ret
  exact ⟨rfl, drewN_below (b01.alloc b01.size _) n⟩

set_option maxHeartbeats 1000000 in
theorem WedStable_walk (A B : List (List Int)) (a b : Option Addr) (cap cap' : Nat) (w : World) (hx : Mat w a A) (hy : Mat w b B) (hl : A.length ≤ 9223372036854775807) (hl' : B.length ≤ 9223372036854775807) :
    Calls Try.prog 3 #[.slice a A.length cap, .slice b B.length cap'] w fun e w' => e = .returned (.bool true) ∧ Below w.heap.size w w' := by
  go_enter Try.func3, Try.ntmps3
  go_wp2_with fail
  refine (wedFact_any _).mono ?_
  rintro e w0 ⟨rfl, b0⟩
  go_wp2_with fail
  refine (Match_any A B a b cap cap' _ (hx.below b0) (hy.below b0) hl hl').mono ?_
  rintro e w1 ⟨⟨hf, asked, has, g, I, rfl, hI, hg⟩ | ⟨hf, k, hk, rfl⟩, b1⟩
  rotate_left
  · have b01 := b0.trans (b1.mono b0.size)
    clear hf
    go_wp2
    go_ret
    exact ⟨rfl, b01⟩
  have b01 := b0.trans (b1.mono b0.size)
  have hall := mOf_all hf I
  have hst := mOf_stable hf I
  have hS := Stable_any A B (mOf A asked) a b (some ⟨g, 0, none⟩) cap cap' A.length w1 (hx.below b01) (hy.below b01) hI hl hl' (by rw [mOf_length]; exact hl)
  rw [mOf_length] at hS
  have HS := Lib.hid hS
  have Hall := Lib.hid hall
  have Hst := Lib.hid hst
  have HI := Lib.hid hI
  have Hf := Lib.hid hf
  have hsh := hf.short
  clear hS hall hst hI I hf
  go_wp2_with fail
  refine HS.out.mono ?_
  rintro e w2 ⟨⟨_, _, ⟨rfl, _⟩ | ⟨i, k, g2, _, _, _, hi, hk, hbad, _⟩⟩ | ⟨hno, _⟩, b2⟩
  · have b02 := b01.trans (b2.mono b01.size)
    have hW := Whole_any A.length (mOf A asked) (some ⟨g, 0, none⟩) A.length w2 (HI.out.below (b2.mono (Nat.le_refl _))) (by omega) (by rw [mOf_length]; exact hl)
    rw [mOf_length] at hW
    have HW := Lib.hid hW
    clear hW b2
    go_wp2_with fail
    refine HW.out.mono ?_
    rintro e w3 ⟨⟨rfl, _⟩ | ⟨c, _, _, hno⟩, b3⟩
    · have b03 := b02.trans (b3.mono b02.size)
      go_wp2
      go_ret
      exact ⟨rfl, b03⟩
    · exact absurd Hall.out hno
  · exact absurd hbad (bad_of Hall.out Hst.out hi hk)
  · exact absurd ⟨Hf.out, Hall.out⟩ hno
end Go.Proofs.Ytlbonbileoioiaa
