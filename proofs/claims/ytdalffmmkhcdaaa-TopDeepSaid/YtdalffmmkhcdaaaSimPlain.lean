/- PLAIN LAW: events by their times (no program in sight). -/
import Derived.Test.YtdalffmmkhcdaaaHeapPlain
set_option linter.unusedVariables false
set_option linter.unusedSimpArgs false
namespace SimPlain
open HeapPlain

structure Ev where
  t : Int
  id : Int
  s : Int
deriving DecidableEq

def e0 : Ev := ⟨0, 0, 0⟩
def Lt (a b : Ev) : Prop := a.t < b.t ∨ (a.t = b.t ∧ a.s < b.s)
instance (a b : Ev) : Decidable (Lt a b) := inferInstanceAs (Decidable (_ ∨ _))
def ltB (a b : Ev) : Bool := decide (Lt a b)
theorem order : Order Lt := ⟨fun a b h => by unfold Lt at *; omega, fun a b c h k => by unfold Lt at *; omega⟩
theorem Lt.trans {a b c : Ev} (h : Lt a b) (k : Lt b c) : Lt a c := by unfold Lt at *; omega
theorem Lt.irrefl (a : Ev) : ¬ Lt a a := by unfold Lt; omega

/-- no two of the same number -/
def Apart (l : List Ev) : Prop := (l.map (·.s)).Nodup
theorem Apart.perm {l l' : List Ev} (h : Apart l) (p : l'.Perm l) : Apart l' := (p.map _).nodup_iff.2 h
theorem Apart.tail {x : Ev} {l : List Ev} (h : Apart (x :: l)) : Apart l := by
  unfold Apart at *; rw [List.map_cons, List.nodup_cons] at h; exact h.2
theorem Apart.cons {x : Ev} {l : List Ev} (h : Apart l) (hx : ∀ e ∈ l, e.s < x.s) : Apart (x :: l) := by
  unfold Apart at *
  rw [List.map_cons, List.nodup_cons]
  refine ⟨fun hm => ?_, h⟩
  obtain ⟨e, he, h1⟩ := List.mem_map.1 hm
  have := hx e he; omega
/-- the least one stands strictly ahead of all others -/
theorem least_lt {x : Ev} {l : List Ev} (h : Apart (x :: l)) (hm : ∀ e ∈ l, ¬ Lt e x) : ∀ e ∈ l, Lt x e := fun e he => by
  have h1 := hm e he
  unfold Apart at h
  rw [List.map_cons, List.nodup_cons] at h
  have h2 : e.s ≠ x.s := fun c => h.1 (List.mem_map.2 ⟨e, he, c⟩)
  unfold Lt at *; omega
/-- of two lists of the same ones the least is the same -/
theorem least_unique {x y : Ev} {l l' : List Ev} (hp : (x :: l).Perm (y :: l')) (hx : ∀ e ∈ l, Lt x e) (hy : ∀ e ∈ l', Lt y e) : x = y ∧ l.Perm l' := by
  have e : x = y := by
    have h1 : x ∈ y :: l' := hp.mem_iff.1 (by simp)
    have h2 : y ∈ x :: l := hp.mem_iff.2 (by simp)
    rcases List.mem_cons.1 h1 with h1 | h1
    · exact h1
    · rcases List.mem_cons.1 h2 with h2 | h2
      · exact h2.symm
      · exact absurd ((hy x h1).trans (hx y h2)) (Lt.irrefl _)
  subst e
  exact ⟨rfl, hp.cons_inv⟩

/-- what a sim is -/
structure Fine (l : List Ev) (now seq : Int) : Prop where
  apart : Apart l
  range : ∀ e ∈ l, now ≤ e.t ∧ e.t ≤ 1000000 ∧ 0 ≤ e.id ∧ e.id ≤ 1000000 ∧ e.s ≤ seq
  now0 : 0 ≤ now
  nowL : now ≤ 1000000
  seq0 : 0 ≤ seq
  many : l.length ≤ 60
theorem Fine.perm {l l' : List Ev} {now seq : Int} (h : Fine l now seq) (p : l'.Perm l) : Fine l' now seq :=
  ⟨h.apart.perm p, fun e he => h.range e (p.mem_iff.1 he), h.now0, h.nowL, h.seq0, by rw [p.length_eq]; exact h.many⟩
theorem Fine.plan {l : List Ev} {now seq t id : Int} (h : Fine l now seq) (h1 : now ≤ t) (h2 : t ≤ 1000000) (h3 : 0 ≤ id) (h4 : id ≤ 1000000) (h5 : l.length < 60) : Fine (⟨t, id, seq + 1⟩ :: l) now (seq + 1) := by
  refine ⟨h.apart.cons fun e he => ?_, fun e he => ?_, h.now0, h.nowL, by have := h.seq0; omega, by rw [List.length_cons]; omega⟩
  · have := h.range e he; show e.s < seq + 1; omega
  · rcases List.mem_cons.1 he with rfl | he
    · exact ⟨h1, h2, h3, h4, Int.le_refl _⟩
    · have := h.range e he; omega
theorem Fine.next {x : Ev} {l : List Ev} {now seq : Int} (h : Fine (x :: l) now seq) (hm : ∀ e ∈ l, ¬ Lt e x) : Fine l x.t seq ∧ ∀ e ∈ l, Lt x e := by
  have hx := h.range x (by simp)
  refine ⟨⟨h.apart.tail, fun e he => ?_, by have := h.now0; omega, by omega, h.seq0, by have := h.many; rw [List.length_cons] at this; omega⟩, least_lt h.apart hm⟩
  have h1 := h.range e (by simp [he])
  have h2 := hm e he
  unfold Lt at h2
  omega
theorem Fine.later {l : List Ev} {now seq t : Int} (h : Fine l now seq) (h1 : now ≤ t) (h2 : t ≤ 1000000) (hm : ∀ e ∈ l, t < e.t) : Fine l t seq :=
  ⟨h.apart, fun e he => by have := h.range e he; have := hm e he; omega, by have := h.now0; omega, h2, h.seq0, h.many⟩
theorem Fine.zero : Fine [] 0 0 := ⟨by simp [Apart], by simp, by omega, by omega, by omega, by simp⟩

/-- what a heap gives first -/
theorem heap_pop {l : List Ev} (h : Heap e0 Lt l) {x : Ev} {l' : List Ev} (hx : x = l.getD 0 e0) (hp : (x :: l').Perm l) : ∀ e ∈ l', ¬ Lt e x := fun e he => by
  have h1 : e ∈ l := hp.mem_iff.1 (by simp [he])
  obtain ⟨k, hk, rfl⟩ := List.mem_iff_getElem.1 h1
  have := heap_min e0 order h k hk
  rw [getD_lt e0 l k hk] at this
  rw [hx]; exact this
end SimPlain
