/- WALKS: core.NewHeap[int]; wed.Match (begun). -/
import Derived.Test.YtakfddcinaaieaaHeapPop
import Derived.Test.YtakfddcinaaieaaWedPlaces
namespace Go.Proofs.Ytakfddcinaaieaa
open Go Go.RowKit

theorem NewHeap_any (w : World) : Calls Try.prog 11 #[.func (.func 12) #[] #[], .slice none 0 0] w fun e w' => e = .returned (.pointer (some ⟨w.heap.size, 0, none⟩)) ∧ w' = w.alloc (.cells #[.slice none 0 0, .func (.func 12) #[] #[]] 38) := by
  go_enter Try.func11, Try.ntmps11
  go_wp2
  refine wp_loop_rounds 1 ?_
  rw [rounds_succ]
  go_wp2
  go_ret
  exact ⟨rfl, rfl⟩
theorem HeapI.new (w : World) (B : Nat) (hB : B ≤ w.heap.size) : HeapI (w.alloc (.cells #[.slice none 0 0, lessF] 38)) B w.heap.size none 0 [] :=
  ⟨hB, heap_alloc_new w _, Own.nil _ _ _, fun k e => by simp [Value.ownBlock] at e⟩
theorem Match_no (A B : List (List Int)) (a b : Option Addr) (cap cap' : Nat) (w : World) (hx : Mat w a A) (hy : Mat w b B) (hl : A.length ≤ 9223372036854775807) (hl' : B.length ≤ 9223372036854775807) (h : ¬ FineW A B) :
    Calls Try.prog 5 #[.slice a A.length cap, .slice b B.length cap'] w fun e w' => (∃ k : Int, k ≠ 0 ∧ e = .returned (.tuple #[.slice none 0 0, .iface 44 (.int .i64 k)])) ∧ Below w.heap.size w w' := by
  have H := Lib.hid h
  clear h
  have hC := Lib.hid (CheckW_any A B a b cap cap' w hx hy hl hl')
  go_enter Try.func5, Try.ntmps5
  go_wp2_with fail
  refine hC.out.mono ?_
  rintro e w1 ⟨⟨rfl, hF⟩ | ⟨k, hk, rfl, hF⟩, hb⟩
  · exact absurd hF H.out
  · clear hF
    go_wp2
    go_ret2
    exact ⟨⟨k, hk, rfl⟩, hb⟩
end Go.Proofs.Ytakfddcinaaieaa
