/- PLAIN LAW: how many spans there are at a time (no program in sight). -/
import Derived.Test.YtdalffmmkhcdaaaSimPlain
set_option linter.unusedVariables false
set_option linter.unusedSimpArgs false
namespace SpPlain
open SimPlain HeapPlain

/-- how many have begun by a time, and how many have ended -/
def begun (l : List Ev) (t : Int) : Nat := l.countP fun e => decide (e.t ≤ t)
def ended (l : List Ev) (t : Int) : Nat := l.countP fun e => decide (e.id ≤ t)
/-- how many there are at a time -/
def act (l : List Ev) (t : Int) : Int := (begun l t : Int) - (ended l t : Int)
/-- most at any time below k -/
def mostTo (l : List Ev) : Nat → Int
  | 0 => 0
  | k + 1 => max (mostTo l k) (act l k)
/-- by how much it turns at a time -/
def turn (l : List Ev) (t : Int) : Int := (l.countP fun e => decide (e.t = t) : Nat) - (l.countP fun e => decide (e.id = t) : Nat)
theorem begun_le (l : List Ev) (t : Int) : begun l t ≤ l.length := List.countP_le_length
theorem ended_le (l : List Ev) (t : Int) : ended l t ≤ l.length := List.countP_le_length
theorem count_step (l : List Ev) (f : Ev → Int) (t : Int) : (l.countP fun e => decide (f e ≤ t + 1)) = (l.countP fun e => decide (f e ≤ t)) + (l.countP fun e => decide (f e = t + 1)) := by
  induction l with
  | nil => rfl
  | cons x l ih =>
    simp only [List.countP_cons, ih]
    by_cases h1 : f x ≤ t
    · rw [if_pos (by simp; omega), if_pos (by simpa using h1), if_neg (by simp; omega)]; omega
    · by_cases h2 : f x = t + 1
      · rw [if_pos (by simp; omega), if_neg (by simpa using h1), if_pos (by simpa using h2)]; omega
      · rw [if_neg (by simp; omega), if_neg (by simpa using h1), if_neg (by simpa using h2)]; rfl
theorem act_step (l : List Ev) (t : Int) : act l (t + 1) = act l t + turn l (t + 1) := by
  unfold act turn begun ended
  rw [count_step l (fun e => e.t) t, count_step l (fun e => e.id) t]
  omega
theorem count_none (l : List Ev) (f : Ev → Int) (t : Int) (h : ∀ e ∈ l, t < f e) : (l.countP fun e => decide (f e ≤ t)) = 0 := by
  rw [List.countP_eq_zero]
  intro e he
  have := h e he
  simp; omega
theorem act_before (l : List Ev) (h1 : ∀ e ∈ l, 0 ≤ e.t) (h2 : ∀ e ∈ l, 0 ≤ e.id) : act l (-1) = 0 := by
  unfold act begun ended
  rw [count_none l (fun e => e.t) (-1) (fun e he => by have := h1 e he; omega), count_none l (fun e => e.id) (-1) (fun e he => by have := h2 e he; omega)]
  rfl
theorem act_bounds (l : List Ev) (t : Int) : -(l.length : Int) ≤ act l t ∧ act l t ≤ l.length := by
  have := begun_le l t
  have := ended_le l t
  unfold act; omega
theorem turn_bounds (l : List Ev) (t : Int) : -(l.length : Int) ≤ turn l t ∧ turn l t ≤ l.length := by
  have h1 : (l.countP fun e => decide (e.t = t)) ≤ l.length := List.countP_le_length
  have h2 : (l.countP fun e => decide (e.id = t)) ≤ l.length := List.countP_le_length
  unfold turn; omega
theorem turn_snoc (l : List Ev) (x : Ev) (t : Int) : turn (l ++ [x]) t = turn l t + (if x.t = t then 1 else 0) - (if x.id = t then 1 else 0) := by
  unfold turn
  simp only [List.countP_append, List.countP_cons, List.countP_nil, decide_eq_true_eq]
  split <;> split <;> omega
theorem mostTo_nonneg (l : List Ev) (k : Nat) : 0 ≤ mostTo l k := by
  induction k with
  | zero => exact Int.le_refl _
  | succ k ih => unfold mostTo; omega
theorem mostTo_le (l : List Ev) (k : Nat) : mostTo l k ≤ l.length := by
  induction k with
  | zero => simp [mostTo]
  | succ k ih => have := (act_bounds l k).2; unfold mostTo; omega
theorem mostTo_ge (l : List Ev) {k j : Nat} (h : j < k) : act l j ≤ mostTo l k := by
  induction k with
  | zero => omega
  | succ k ih =>
    unfold mostTo
    by_cases e : j = k
    · subst e; omega
    · have := ih (by omega); omega
/-- below whatever bounds all of them -/
theorem mostTo_least (l : List Ev) (k : Nat) (B : Int) (h0 : 0 ≤ B) (h : ∀ j, j < k → act l j ≤ B) : mostTo l k ≤ B := by
  induction k with
  | zero => exact h0
  | succ k ih =>
    have h1 := ih fun j hj => h j (by omega)
    have h2 := h k (by omega)
    unfold mostTo; omega
end SpPlain
