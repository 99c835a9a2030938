/- PLAIN LAW: what waits, in its order (no program in sight). -/
import Derived.Test.YtdalffmmkhcdaaaSimPlain
set_option linter.unusedVariables false
set_option linter.unusedSimpArgs false
namespace SimPlain
open HeapPlain

def ins (e : Ev) : List Ev → List Ev
  | [] => [e]
  | x :: q => if Lt x e then x :: ins e q else e :: x :: q
theorem ins_perm (e : Ev) (q : List Ev) : (ins e q).Perm (e :: q) := by
  induction q with
  | nil => exact List.Perm.refl _
  | cons x q ih =>
    unfold ins
    split
    · exact (ih.cons x).trans (List.Perm.swap e x q)
    · exact List.Perm.refl _
theorem ins_sorted {e : Ev} {q : List Ev} (h : q.Pairwise Lt) (hs : ∀ x ∈ q, x.s < e.s) : (ins e q).Pairwise Lt := by
  induction q with
  | nil => simp [ins]
  | cons x q ih =>
    rw [List.pairwise_cons] at h
    have ih' := ih h.2 fun y hy => hs y (List.mem_cons_of_mem _ hy)
    unfold ins
    split
    · next hx =>
      rw [List.pairwise_cons]
      refine ⟨fun y hy => ?_, ih'⟩
      rcases List.mem_cons.1 ((ins_perm e q).mem_iff.1 hy) with rfl | hy
      · exact hx
      · exact h.1 y hy
    · next hx =>
      have hex : Lt e x := by
        have h1 := hs x (by simp)
        unfold Lt at hx ⊢; omega
      rw [List.pairwise_cons]
      refine ⟨fun y hy => ?_, List.pairwise_cons.2 h⟩
      rcases List.mem_cons.1 hy with rfl | hy
      · exact hex
      · exact hex.trans (h.1 y hy)
theorem apart_sorted {q : List Ev} (h : q.Pairwise Lt) {x : Ev} {q' : List Ev} (e : q = x :: q') : ∀ y ∈ q', Lt x y := by
  subst e; exact (List.pairwise_cons.1 h).1
/-- the heap's first one is the first one in order -/
theorem first_of {l : List Ev} (hh : Heap e0 Lt l) {x : Ev} {q : List Ev} (hp : l.Perm (x :: q)) (hs : (x :: q).Pairwise Lt) : l.getD 0 e0 = x := by
  have h0 : 0 < l.length := by rw [hp.length_eq]; simp
  have hm : l.getD 0 e0 ∈ l := by rw [getD_lt e0 l 0 h0]; exact List.getElem_mem h0
  rcases List.mem_cons.1 (hp.mem_iff.1 hm) with h | h
  · exact h
  · have h1 := (List.pairwise_cons.1 hs).1 _ h
    have h2 : x ∈ l := hp.mem_iff.2 (by simp)
    obtain ⟨k, hk, e⟩ := List.mem_iff_getElem.1 h2
    have := heap_min e0 order hh k hk
    rw [getD_lt e0 l k hk, e] at this
    exact absurd h1 this
theorem rest_of {l l' : List Ev} {x : Ev} {q : List Ev} (hp : l.Perm (x :: q)) (h' : (x :: l').Perm l) : l'.Perm q := (h'.trans hp).cons_inv
theorem Fine.ins {q : List Ev} {now seq t id : Int} (h : Fine q now seq) (h1 : now ≤ t) (h2 : t ≤ 1000000) (h3 : 0 ≤ id) (h4 : id ≤ 1000000) (h5 : q.length < 60) : Fine (ins ⟨t, id, seq + 1⟩ q) now (seq + 1) :=
  (h.plan h1 h2 h3 h4 h5).perm (ins_perm _ _)
theorem Fine.filter {q : List Ev} {now seq : Int} (h : Fine q now seq) (p : Ev → Bool) : Fine (q.filter p) now seq := by
  refine ⟨?_, fun e he => h.range e ((List.mem_filter.1 he).1), h.now0, h.nowL, h.seq0, Nat.le_trans (List.length_filter_le _ _) h.many⟩
  have := h.apart
  unfold Apart at *
  exact this.sublist ((List.filter_sublist (p := p)).map _)
theorem Fine.sub {q q' : List Ev} {now seq : Int} (h : Fine q now seq) (p : q'.Sublist q) : Fine q' now seq := by
  refine ⟨?_, fun e he => h.range e (p.subset he), h.now0, h.nowL, h.seq0, Nat.le_trans p.length_le h.many⟩
  have := h.apart
  unfold Apart at *
  exact this.sublist (p.map _)

/-- what happens up to a time, and what does not -/
def tillB (t : Int) (e : Ev) : Bool := decide (e.t ≤ t)
theorem till_all {q : List Ev} (h : q.Pairwise Lt) (t : Int) : ∀ e ∈ q.dropWhile (tillB t), t < e.t := by
  induction q with
  | nil => simp
  | cons x q ih =>
    rw [List.pairwise_cons] at h
    intro e he
    by_cases hx : x.t ≤ t
    · rw [List.dropWhile_cons_of_pos (by simpa [tillB] using hx)] at he
      exact ih h.2 e he
    · rw [List.dropWhile_cons_of_neg (by simpa [tillB] using hx)] at he
      rcases List.mem_cons.1 he with rfl | he
      · omega
      · have := h.1 e he
        unfold Lt at this
        omega
end SimPlain
