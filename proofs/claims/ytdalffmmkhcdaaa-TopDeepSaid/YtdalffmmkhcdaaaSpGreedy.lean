/- PLAIN LAW: rooms given out in the order of the beginnings are as many as there are spans at a time at most (no program in sight). -/
import Derived.Test.YtdalffmmkhcdaaaSpPlain
set_option linter.unusedVariables false
set_option linter.unusedSimpArgs false
namespace SpPlain
open SimPlain HeapPlain

/-- those that there are at a time -/
def live (W : List Ev) (t : Int) : Nat := W.countP fun e => decide (e.t ≤ t) && decide (t < e.id)
theorem act_live (W : List Ev) (h : ∀ e ∈ W, e.t < e.id) (t : Int) : act W t = (live W t : Int) := by
  unfold act begun ended live
  induction W with
  | nil => rfl
  | cons x W ih =>
    have hx := h x (by simp)
    have ih := ih fun e he => h e (List.mem_cons_of_mem _ he)
    simp only [List.countP_cons]
    by_cases h1 : x.t ≤ t
    · by_cases h2 : t < x.id
      · rw [if_pos (by simpa using h1), if_neg (by simpa using h2), if_pos (by simp [h1, h2])]; omega
      · rw [if_pos (by simpa using h1), if_pos (by simp; omega), if_neg (by simp [h2])]; omega
    · rw [if_neg (by simpa using h1), if_neg (by simp; omega), if_neg (by simp [h1])]; omega
theorem act_perm {W l : List Ev} (f : Ev → Ev) (hp : W.Perm (l.map f)) (h1 : ∀ e, (f e).t = e.t) (h2 : ∀ e, (f e).id = e.id) (t : Int) : act W t = act l t := by
  unfold act begun ended
  rw [hp.countP_eq, hp.countP_eq, List.countP_map, List.countP_map]
  congr 2
  · congr 1
    funext e; simp [h1]
  · congr 1
    funext e; simp [h2]
/-- behind whom the rooms have been given out: P; when each gets free; who has which -/
structure Greedy (D : Int) (P : List Ev) (free out : List Int) : Prop where
  busy : ∀ t : Int, (∀ x ∈ P, x.t ≤ t) → (free.countP fun z => decide (t < z)) = P.countP fun x => decide (t < x.id)
  room : ∀ t : Int, live P t ≤ free.length
  deep : (free.length : Int) ≤ D
  out : (P = [] ∧ free = [] ∧ ∀ j, out.getD j 0 = 0) ∨ (0 < free.length ∧ (∀ j, 0 ≤ out.getD j 0 ∧ out.getD j 0 < free.length) ∧ ∃ x ∈ P, ∃ j : Nat, x.s = j ∧ j < out.length ∧ out.getD j 0 = (free.length : Int) - 1)
theorem Greedy.start (D : Int) (hD : 0 ≤ D) (n : Nat) : Greedy D [] [] (List.replicate n 0) := by
  refine ⟨fun t _ => rfl, fun t => Nat.le_refl _, hD, .inl ⟨rfl, rfl, fun j => ?_⟩⟩
  rw [List.getD_eq_getElem?_getD, List.getElem?_replicate]
  split <;> rfl
theorem live_all {P : List Ev} {t : Int} (h : ∀ x ∈ P, x.t ≤ t) : live P t = P.countP fun x => decide (t < x.id) := by
  unfold live
  refine List.countP_congr fun x hx => ?_
  have := h x hx
  simp [this]
theorem live_snoc (P : List Ev) (x : Ev) (t : Int) : live (P ++ [x]) t = live P t + if x.t ≤ t ∧ t < x.id then 1 else 0 := by
  unfold live
  rw [List.countP_append, List.countP_cons, List.countP_nil, Nat.zero_add]
  congr 1
  by_cases h : x.t ≤ t ∧ t < x.id
  · rw [if_pos h, if_pos (by simp [h.1, h.2])]
  · rw [if_neg h, if_neg (by simpa using h)]
theorem ids_snoc (P : List Ev) (x : Ev) (t : Int) : ((P ++ [x]).countP fun x => decide (t < x.id)) = (P.countP fun x => decide (t < x.id)) + if t < x.id then 1 else 0 := by
  rw [List.countP_append, List.countP_cons, List.countP_nil, Nat.zero_add]
  congr 1
  by_cases h : t < x.id
  · rw [if_pos h, if_pos (by simpa using h)]
  · rw [if_neg h, if_neg (by simpa using h)]
theorem getD_lt' (l : List Int) (i : Nat) (h : i < l.length) : l.getD i 0 = l[i] := by simp [List.getD_eq_getElem?_getD, h]
theorem Greedy.old {D : Int} {P : List Ev} {free out : List Int} {x : Ev} {r j : Nat} (h : Greedy D P free out) (hP : ∀ y ∈ P, y.t ≤ x.t) (hr : r < free.length) (hle : free.getD r 0 ≤ x.t) (hj : x.s = j) (hjo : j < out.length)
    (hnew : ∀ y ∈ P, y.s ≠ x.s) : Greedy D (P ++ [x]) (free.set r x.id) (out.set j (r : Int)) := by
  have hbusy : ∀ t : Int, (∀ y ∈ P ++ [x], y.t ≤ t) → ((free.set r x.id).countP fun z => decide (t < z)) = (P ++ [x]).countP fun y => decide (t < y.id) := fun t ht => by
    have h1 := ht x (by simp)
    have h2 := h.busy t fun y hy => ht y (by simp [hy])
    rw [getD_lt' free r hr] at hle
    rw [List.countP_set (h := hr), ids_snoc, ← h2, if_neg (by simp; omega), Nat.sub_zero]
    congr 1
    by_cases c : t < x.id
    · rw [if_pos c, if_pos (by simpa using c)]
    · rw [if_neg c, if_neg (by simpa using c)]
  refine ⟨hbusy, fun t => ?_, by rw [List.length_set]; exact h.deep, .inr ⟨by rw [List.length_set]; omega, fun i => ?_, ?_⟩⟩
  · rw [List.length_set]
    by_cases c : x.t ≤ t
    · have hall : ∀ y ∈ P ++ [x], y.t ≤ t := fun y hy => by
        rcases List.mem_append.1 hy with e | e
        · have := hP y e; omega
        · simp at e; subst e; exact c
      rw [live_all hall, ← hbusy t hall]
      have h3 := List.countP_le_length (p := fun z => decide (t < z)) (l := free.set r x.id)
      rw [List.length_set] at h3
      exact h3
    · rw [live_snoc, if_neg (by omega), Nat.add_zero]; exact h.room t
  · rw [List.length_set, HeapPlain.getD_set 0 out j i _ hjo]
    rcases h.out with ⟨_, h0, _⟩ | ⟨_, h1, _⟩
    · rw [h0] at hr; simp at hr
    · split
      · omega
      · exact h1 i
  · simp only [List.length_set]
    rcases h.out with ⟨_, h0, _⟩ | ⟨_, _, y, hy, k, e1, e2, e3⟩
    · rw [h0] at hr; simp at hr
    · refine ⟨y, by simp [hy], k, e1, e2, ?_⟩
      rw [HeapPlain.getD_set 0 out j k _ hjo, if_neg (fun c => hnew y hy (by rw [e1, hj, c]))]
      exact e3
theorem Greedy.new {D : Int} {P : List Ev} {free out : List Int} {x : Ev} {j : Nat} (h : Greedy D P free out) (hP : ∀ y ∈ P, y.t ≤ x.t) (hx : x.t < x.id) (hall : ∀ r, r < free.length → x.t < free.getD r 0) (hj : x.s = j) (hjo : j < out.length)
    (hD : (live (P ++ [x]) x.t : Int) ≤ D) : Greedy D (P ++ [x]) (free ++ [x.id]) (out.set j (free.length : Int)) := by
  have hbusy : ∀ t : Int, (∀ y ∈ P ++ [x], y.t ≤ t) → ((free ++ [x.id]).countP fun z => decide (t < z)) = (P ++ [x]).countP fun y => decide (t < y.id) := fun t ht => by
    have h2 := h.busy t fun y hy => ht y (by simp [hy])
    rw [List.countP_append, List.countP_cons, List.countP_nil, Nat.zero_add, ids_snoc, h2]
    congr 1
    by_cases c : t < x.id
    · rw [if_pos c, if_pos (by simpa using c)]
    · rw [if_neg c, if_neg (by simpa using c)]
  have hlen : (free ++ [x.id]).length = free.length + 1 := by simp
  have hlive : live (P ++ [x]) x.t = free.length + 1 := by
    rw [live_snoc, if_pos ⟨Int.le_refl _, hx⟩, live_all hP, ← h.busy x.t hP]
    congr 1
    rw [List.countP_eq_length]
    intro z hz
    obtain ⟨r, hr, rfl⟩ := List.mem_iff_getElem.1 hz
    have := hall r hr
    rw [getD_lt' free r hr] at this
    simpa using this
  refine ⟨hbusy, fun t => ?_, by rw [hlen]; omega, .inr ⟨by omega, fun i => ?_, ?_⟩⟩
  · rw [hlen]
    by_cases c : x.t ≤ t
    · have hall : ∀ y ∈ P ++ [x], y.t ≤ t := fun y hy => by
        rcases List.mem_append.1 hy with e | e
        · have := hP y e; omega
        · simp at e; subst e; exact c
      rw [live_all hall, ← hbusy t hall, ← hlen]
      exact List.countP_le_length
    · rw [live_snoc, if_neg (by omega), Nat.add_zero]
      have := h.room t; omega
  · rw [hlen, HeapPlain.getD_set 0 out j i _ hjo]
    split
    · omega
    · rcases h.out with ⟨_, _, h0⟩ | ⟨_, h1, _⟩
      · rw [h0 i]; omega
      · have := h1 i; omega
  · rw [hlen]
    refine ⟨x, by simp, j, hj, by rw [List.length_set]; exact hjo, ?_⟩
    rw [HeapPlain.getD_set 0 out j j _ hjo, if_pos rfl]; omega
/-- as many as there are at a time at most -/
theorem Greedy.many {l W : List Ev} {free out : List Int} (h : Greedy (mostTo l 1001) W free out) (hW : ∀ t, act W t = act l t) (hlt : ∀ e ∈ W, e.t < e.id) : (free.length : Int) = mostTo l 1001 := by
  have h1 := h.deep
  have h2 := mostTo_least l 1001 free.length (by omega) fun j hj => by
    rw [← hW, act_live W hlt]
    have := h.room j; omega
  omega
end SpPlain
