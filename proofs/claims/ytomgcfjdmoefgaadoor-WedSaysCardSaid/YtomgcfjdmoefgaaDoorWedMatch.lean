/- WALKS: core.NewHeap[int]; wed.Match (begun). -/
import Derived.Test.YtomgcfjdmoefgaaDoorHeapPop
import Derived.Test.YtomgcfjdmoefgaaDoorWedPlaces
namespace Go.Proofs.YtomgcfjdmoefgaaDoor
open Go Go.RowKit

theorem NewHeap_any (w : World) : Calls Tryd.prog 68 #[.func (.func 69) #[] #[], .slice none 0 0] w fun e w' => e = .returned (.pointer (some ⟨w.heap.size, 0, none⟩)) ∧ w' = w.alloc (.cells #[.slice none 0 0, .func (.func 69) #[] #[]] 88) := by
  go_enter Tryd.func68, Tryd.ntmps68
  go_wp2
  refine wp_loop_rounds 1 ?_
  rw [rounds_succ]
  go_wp2
  go_ret
  exact ⟨rfl, rfl⟩
theorem HeapI.new (w : World) (B : Nat) (hB : B ≤ w.heap.size) : HeapI (w.alloc (.cells #[.slice none 0 0, lessF] 88)) B w.heap.size none 0 [] :=
  ⟨hB, heap_alloc_new w _, Own.nil _ _ _, fun k e => by simp [Value.ownBlock] at e⟩
theorem Match_no (A B : List (List Int)) (a b : Option Addr) (cap cap' : Nat) (w : World) (hx : Mat w a A) (hy : Mat w b B) (hl : A.length ≤ 9223372036854775807) (hl' : B.length ≤ 9223372036854775807) (h : ¬ FineW A B) :
    Calls Tryd.prog 30 #[.slice a A.length cap, .slice b B.length cap'] w fun e w' => (∃ k : Int, k ≠ 0 ∧ e = .returned (.tuple #[.slice none 0 0, .iface 81 (.int .i64 k)])) ∧ Below w.heap.size w w' := by
  have H := Lib.hid h
  clear h
  have hC := Lib.hid (CheckW_any A B a b cap cap' w hx hy hl hl')
  go_enter Tryd.func30, Tryd.ntmps30
  go_wp2_with fail
  refine hC.out.mono ?_
  rintro e w1 ⟨⟨rfl, hF⟩ | ⟨k, hk, rfl, hF⟩, hb⟩
  · exact absurd hF H.out
  · clear hF
    go_wp2
    go_ret2
    exact ⟨⟨k, hk, rfl⟩, hb⟩
end Go.Proofs.YtomgcfjdmoefgaaDoor
