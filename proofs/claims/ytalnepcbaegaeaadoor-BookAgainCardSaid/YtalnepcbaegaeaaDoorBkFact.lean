/- WALK: ricksteadlaw6.bookFact: a closed fact. -/
import Derived.Test.YtalnepcbaegaeaaDoorBkTold
set_option linter.unusedVariables false
set_option linter.unusedSimpArgs false
namespace Go.Proofs.YtalnepcbaegaeaaDoor
open Go Go.RowKit SimPlain HeapPlain BookPlain

set_option maxRecDepth 100000 in
set_option maxHeartbeats 2000000 in
theorem bookFact_any (w : World) (htab : Tab w) : Calls Tryd.prog 15 #[] w fun e w' => e = .returned (.bool true) ∧ Below w.heap.size w w' := by
  have hb := heap_alloc_new w (.cells #[.int .i64 4, .int .i64 2] 28)
  have ho : Below w.heap.size w (w.alloc (.cells #[.int .i64 4, .int .i64 2] 28)) := (Below.refl _ _).alloc (Nat.le_refl _) _
  have hx : EvA (w.alloc (.cells #[.int .i64 4, .int .i64 2] 28)) (some ⟨w.heap.size, 0, none⟩) [⟨4, 2, 0⟩] := by
    refine .inr ⟨w.heap.size, 0, rfl, by simp, fun i hi => ?_⟩
    obtain rfl : i = 0 := by simpa using hi
    exact ⟨by simp only [World.cell?, Nat.zero_mul, Nat.add_zero, hb]; rfl, by simp only [World.cell?, Nat.zero_mul, Nat.add_zero, hb]; rfl⟩
  have hT := told_any [⟨4, 2, 0⟩] (some ⟨w.heap.size, 0, none⟩) 1 _ hx (by simp) (htab.to ho)
  have HT := Lib.hid hT
  have HO := Lib.hid ho
  clear hT hx hb ho
  go_enter Tryd.func15, Tryd.ntmps15
  go_wp2_with fail
  refine HT.out.mono ?_
  rintro e w2 ⟨S, F, i, rfl, hi, hi2, hS, hb2⟩
  have e : [(⟨4, 2, 0⟩ : Ev)].take i = [⟨4, 2, 0⟩] := by rcases hi2 with h | h <;> (rw [h]; rfl)
  rw [e] at hS
  have q1 : (toldB [⟨4, 2, 0⟩]).q.length = 1 := by rfl
  have t1 : 9 < (toldB [⟨4, 2, 0⟩]).T.length := of_decide_eq_true (by kernel_rfl)
  have ht := hS.txt
  have hM := BMany_any S _ F _ _ _ w2 hS.book hS.many
  rw [q1] at hM
  have HM := Lib.hid hM
  have HX := Lib.hid (BText_any S _ F _ _ _ w2 hS.book)
  generalize (toldB [⟨4, 2, 0⟩]).T = T at t1 ht HX
  have hTI : (9 : Int) < (T.length : Int) := by omega
  have HB2 := Lib.hid hb2
  have hfb := hS.book.fb
  have HFb := Lib.hid hfb
  clear hM hS e q1 hb2 hfb
  go_wp2_with fail
  refine HM.out.mono ?_
  rintro e w3 ⟨rfl, rfl⟩
  go_wp2_with fail
  refine HX.out.mono ?_
  rintro e w4 ⟨rfl, hq4, o4⟩
  have HQ := Lib.hid hq4
  have HO4 := Lib.hid o4
  clear hq4 o4
  go_wp2
  go_ret
  have h1 := HO.out.size
  have h2 := HB2.out.size
  have o2 := (only_of_below HO.out (fun k => w.heap.size ≤ k)).trans (only_of_below HB2.out (fun k => w.heap.size ≤ k)) (fun _ _ h => h)
  exact ⟨rfl, (o2.trans HO4.out (fun k _ c => by have := (HFb.out k c).1; omega)).below (Nat.le_refl _) (fun _ h => h)⟩
end Go.Proofs.YtalnepcbaegaeaaDoor
