/- WALK: crew.Sort's worker in company: from its birth to its end. · PLAIN LAW: two sorted lists merged: what is told of many hands (no program text in sight). -/
import Derived.Test.YtienepcknafddaaDoorM22
import Derived.Test.YtienepcknafddaaDoorM1
section
set_option linter.unusedVariables false
set_option linter.unusedVariables false
set_option linter.unusedSimpArgs false
namespace Go.Proofs.YtienepcknafddaaDoor
open Go Go.RowKit Go.Conc Co Cr SimPlain HeapPlain SymPlain

noncomputable def bot10 : Frame := { (default : Frame) with fn := Tryd.prog.funcs.size, defers := [], mode := .panicking [goexitEntry] }
noncomputable def body10 : Code := Tryd.f13.body.getD .skip
noncomputable def opsD10 : List Oper := match Tryd.f13.body with
  | some (.seq (.region _ o _) _) => o.toList
  | _ => []
theorem body10_eq : body10 = .seq (.region 0 opsD10.toArray false) (.region 1 ops10.toArray true) := by kernel_rfl
theorem opsD10_at : opsD10[0]? = some (opsD10.getD 0 default) := by kernel_rfl
noncomputable def atsD10 : Array TypeId := match (opsD10.getD 0 default).op with
  | .defer c => c.argTypes
  | _ => #[]
theorem opsD10_op : (opsD10.getD 0 default).op = .defer { callee := .value (.func 14), args := #[.tmp 0], argTypes := atsD10 } := by kernel_rfl
theorem opsD10_dst : (opsD10.getD 0 default).dst = none := by kernel_rfl
theorem opsD10_guard : (opsD10.getD 0 default).guard = none := by kernel_rfl
theorem opsD10_len : opsD10.length = 1 := by kernel_rfl
/-- the call that a worker is born with -/
def call10 (Wg L K H Q : Nat) : Deferred := { target := .fn (.func 13) #[.pointer (some ⟨Wg, 0, none⟩), .pointer (some ⟨L, 0, none⟩), .pointer (some ⟨K, 0, none⟩), .pointer (some ⟨H, 0, none⟩), .pointer (some ⟨Q, 0, none⟩)], args := #[] }
def tm10 (Wg L K H Q : Nat) : Array Value := #[.pointer (some ⟨Wg, 0, none⟩), .pointer (some ⟨L, 0, none⟩), .pointer (some ⟨K, 0, none⟩), .pointer (some ⟨H, 0, none⟩), .pointer (some ⟨Q, 0, none⟩), undef, undef, undef, undef, undef, undef, undef, undef, undef, undef, undef, undef, undef, undef, undef, undef, undef, undef, undef, undef, undef, undef]
theorem born10 (Wg L K H Q : Nat) (w : World) : stepG Tryd.prog false (born Tryd.prog (call10 Wg L K H Q)) w = .go (G ((b10 .deferred).at ⟨tm10 Wg L K H Q, []⟩ [.code body10]) [bot10]) w #[] := by
  simp [born, call10, stepG, unwind, callDeferred, invoke, callFunc, Tryd.func13, Tryd.f13, seen, GStep.after, G, Frame.enter, Frame.at, b10, bot10, body10, tm10]
theorem quits10 (T : Array Value) : QuitsD Tryd.prog 2 0 (G { (b10 .deferred).at ⟨T, []⟩ [] with mode := .returning } [bot10]) := by
  refine QuitsD.ctl (g' := G bot10 []) rfl (fun w => ?_) ?_
  · simp [G, stepG, unwind, doReturn, results, Frame.at, b10, bot10, Tryd.func13, Tryd.f13, seen, GStep.after, goexitEntry]
  refine QuitsD.ctl (g' := { G bot10 [] with status := .finished }) rfl (fun w => ?_) ⟨rfl, rfl⟩
  simp [G, stepG, unwind, bot10, goexitEntry, Frame.catches]
  rfl
theorem deferred10 (Wg L K H Q : Nat) {m : Bool} {k : List Item} {cs : List Frame} {w : World} : stepG Tryd.prog m (G ((b10 .deferred).at ⟨tm10 Wg L K H Q, []⟩ (.inRegion opsD10.toArray [0] :: k)) cs) w = .go (G ((b10 .deferred).at ⟨tm10 Wg L K H Q, [dcall 14 #[.pointer (some ⟨Wg, 0, none⟩)]]⟩ (.inRegion opsD10.toArray [] :: k)) cs) w #[] := by
  rw [stepG_defer (o := opsD10.getD 0 default) (by rw [List.getElem?_toArray]; exact opsD10_at) (wanted_none opsD10_guard _) (by decide) opsD10_op, opsD10_dst]
  simp [Act.put, Act.eval, tm10]
section
variable {r : Rts} {w : World} {A : Option Addr} {Wg b off N cap k h C L K H Q lo hi : Nat} {part : List Ev}
/-- THE WORKER -/
theorem sort_worker (hn : WkN N cap k h lo hi part) (hr : WkR r L K H Q b C k) (hw : WkW w A b off N cap k h C L K H Q lo part) : WkE Tryd.prog wgL.tWg (Go.ConcN.WgLive wgL.tWg Wg) Wg 0 (JW C k part) .calm r (born Tryd.prog (call10 Wg L K H Q)) w := by
  refine wk_ctl trivial rfl (born10 Wg L K H Q) rfl ?_
  rw [body10_eq]
  refine wk_ctl trivial rfl (fun _ => stepG_seq) rfl ?_
  refine wk_ctl trivial rfl (fun _ => stepG_region) rfl ?_
  rw [show List.range opsD10.toArray.size = [0] by simp [opsD10_len]]
  refine wk_ctl trivial rfl (fun _ => deferred10 Wg L K H Q) rfl ?_
  refine wk_ctl trivial rfl (fun _ => stepG_region_end) rfl ?_
  refine work_region (ph := .calm) hn hr hw trivial (by decide) _ fun t' r' w1 hJ hI => ?_
  refine wk_ctl trivial rfl (fun _ => stepG_end) rfl ?_
  refine wk_ctl trivial rfl (fun _ => stepG_unwind_enter rfl wgLib.f_done rfl rfl) rfl ?_
  exact wk_done wgLib rfl (quits10 t') w1 (fun w2 h2 => JW.st C k part _ _ _ _ hJ h2) hI
end
end Go.Proofs.YtienepcknafddaaDoor
end

section
set_option linter.unusedVariables false
set_option linter.unusedSimpArgs false
namespace SimPlain

/-- the merge of two sorted lists: of equal keys the first list's first -/
def mergeP : List Ev → List Ev → List Ev
  | [], B => B
  | A, [] => A
  | x :: A, y :: B => if x.t ≤ y.t then x :: mergeP A (y :: B) else y :: mergeP (x :: A) B
termination_by A B => A.length + B.length
theorem mergeP_nil (B : List Ev) : mergeP [] B = B := by unfold mergeP; rfl
theorem mergeP_nil' (A : List Ev) : mergeP A [] = A := by
  cases A with
  | nil => exact mergeP_nil []
  | cons x A => unfold mergeP; rfl
theorem mergeP_le {x y : Ev} {A B : List Ev} (h : x.t ≤ y.t) : mergeP (x :: A) (y :: B) = x :: mergeP A (y :: B) := by
  conv => lhs; unfold mergeP
  rw [if_pos h]
theorem mergeP_gt {x y : Ev} {A B : List Ev} (h : ¬ x.t ≤ y.t) : mergeP (x :: A) (y :: B) = y :: mergeP (x :: A) B := by
  conv => lhs; unfold mergeP
  rw [if_neg h]
theorem mergeP_perm : ∀ (A B : List Ev), (mergeP A B).Perm (A ++ B)
  | [], B => by rw [mergeP_nil]; exact .refl _
  | x :: A, [] => by rw [mergeP_nil']; simp
  | x :: A, y :: B => by
    by_cases h : x.t ≤ y.t
    · rw [mergeP_le h]
      exact (mergeP_perm A (y :: B)).cons x
    · rw [mergeP_gt h]
      exact ((mergeP_perm (x :: A) B).cons y).trans (List.perm_middle.symm)
termination_by A B => A.length + B.length
theorem mergeP_sorted : ∀ (A B : List Ev), A.Pairwise Lt → B.Pairwise Lt → (∀ x ∈ A, ∀ y ∈ B, x.s < y.s) → (mergeP A B).Pairwise Lt
  | [], B, _, hB, _ => by rw [mergeP_nil]; exact hB
  | x :: A, [], hA, _, _ => by rw [mergeP_nil']; exact hA
  | x :: A, y :: B, hA, hB, hs => by
    have hxy := hs x (by simp) y (by simp)
    rw [List.pairwise_cons] at hA hB
    by_cases h : x.t ≤ y.t
    · have hl : Lt x y := by unfold Lt; omega
      rw [mergeP_le h, List.pairwise_cons]
      refine ⟨fun z hz => ?_, mergeP_sorted A (y :: B) hA.2 (List.pairwise_cons.2 hB) (fun a ha b hb => hs a (by simp [ha]) b hb)⟩
      rcases List.mem_append.1 ((mergeP_perm A (y :: B)).mem_iff.1 hz) with hz | hz
      · exact hA.1 z hz
      · rcases List.mem_cons.1 hz with rfl | hz
        · exact hl
        · exact hl.trans (hB.1 z hz)
    · have hl : Lt y x := by unfold Lt; omega
      rw [mergeP_gt h, List.pairwise_cons]
      refine ⟨fun z hz => ?_, mergeP_sorted (x :: A) B (List.pairwise_cons.2 hA) hB.2 (fun a ha b hb => hs a ha b (by simp [hb]))⟩
      rcases List.mem_append.1 ((mergeP_perm (x :: A) B).mem_iff.1 hz) with hz | hz
      · rcases List.mem_cons.1 hz with rfl | hz
        · exact hl
        · exact hl.trans (hA.1 z hz)
      · exact hB.1 z hz
termination_by A B => A.length + B.length
/-- one round of gather: neighbours are merged, the last of an odd number stays -/
def roundP : List (List Ev) → List (List Ev)
  | A :: B :: r => mergeP A B :: roundP r
  | [A] => [A]
  | [] => []
def Parted : List (List Ev) → Prop := List.Pairwise fun A B => ∀ x ∈ A, ∀ y ∈ B, x.s < y.s
theorem roundP_perm : ∀ (ls : List (List Ev)), (roundP ls).flatten.Perm ls.flatten
  | A :: B :: r => by
    simp only [roundP, List.flatten_cons, ← List.append_assoc]
    exact (mergeP_perm A B).append (roundP_perm r)
  | [A] => .refl _
  | [] => .refl _
theorem roundP_mem : ∀ {ls : List (List Ev)} {C : List Ev} {x : Ev}, C ∈ roundP ls → x ∈ C → ∃ D ∈ ls, x ∈ D
  | A :: B :: r, C, x, hC, hx => by
    simp only [roundP, List.mem_cons] at hC
    rcases hC with rfl | hC
    · rcases List.mem_append.1 ((mergeP_perm A B).mem_iff.1 hx) with h | h
      · exact ⟨A, by simp, h⟩
      · exact ⟨B, by simp, h⟩
    · obtain ⟨D, h1, h2⟩ := roundP_mem hC hx
      exact ⟨D, by simp [h1], h2⟩
  | [A], C, x, hC, hx => ⟨C, hC, hx⟩
  | [], C, x, hC, hx => by cases hC
theorem roundP_sorted : ∀ {ls : List (List Ev)}, Parted ls → (∀ A ∈ ls, A.Pairwise Lt) → Parted (roundP ls) ∧ ∀ A ∈ roundP ls, A.Pairwise Lt
  | A :: B :: r, ha, hs => by
    unfold Parted at ha
    rw [List.pairwise_cons, List.pairwise_cons] at ha
    obtain ⟨h1, h2, h3⟩ := ha
    obtain ⟨k1, k2⟩ := roundP_sorted (ls := r) h3 (fun C hC => hs C (by simp [hC]))
    refine ⟨?_, fun C hC => ?_⟩
    · unfold Parted
      simp only [roundP]
      rw [List.pairwise_cons]
      refine ⟨fun C hC x hx y hy => ?_, k1⟩
      obtain ⟨D, d1, d2⟩ := roundP_mem hC hy
      rcases List.mem_append.1 ((mergeP_perm A B).mem_iff.1 hx) with h | h
      · exact h1 D (by simp [d1]) x h y d2
      · exact h2 D d1 x h y d2
    · simp only [roundP, List.mem_cons] at hC
      rcases hC with rfl | hC
      · exact mergeP_sorted A B (hs A (by simp)) (hs B (by simp)) (h1 B (by simp))
      · exact k2 C hC
  | [A], ha, hs => ⟨ha, hs⟩
  | [], ha, hs => ⟨ha, hs⟩
theorem sorted_unique : ∀ {l l' : List Ev}, l.Perm l' → l.Pairwise Lt → l'.Pairwise Lt → l = l'
  | [], l', h, _, _ => (List.nil_perm.1 h).symm ▸ rfl
  | x :: l, [], h, _, _ => absurd h.length_eq (by simp)
  | x :: l, y :: l', h, h1, h2 => by
    obtain ⟨e, p⟩ := least_unique h (List.pairwise_cons.1 h1).1 (List.pairwise_cons.1 h2).1
    rw [e, sorted_unique p (List.pairwise_cons.1 h1).2 (List.pairwise_cons.1 h2).2]
end SimPlain
end
