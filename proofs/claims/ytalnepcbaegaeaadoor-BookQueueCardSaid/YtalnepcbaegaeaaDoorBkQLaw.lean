/- PLAIN LAW: what waits when all was pushed and nothing was taken (no program in sight). -/
import Derived.Test.YtalnepcbaegaeaaDoorBkPushS
namespace Go.Proofs.YtalnepcbaegaeaaDoor
open SimPlain BookPlain

/-- each item with its place -/
def num (l : List Ev) : List Ev := l.mapIdx fun i e => ⟨e.t, e.id, (i : Int) + 1⟩
theorem num_length (l : List Ev) : (num l).length = l.length := by simp [num]
theorem num_getD (l : List Ev) (i : Nat) (h : i < l.length) : (num l).getD i e0 = ⟨(l.getD i e0).t, (l.getD i e0).id, (i : Int) + 1⟩ := by
  unfold num
  rw [List.getD_eq_getElem?_getD, List.getElem?_mapIdx, List.getD_eq_getElem?_getD, List.getElem?_eq_getElem h]
  rfl
def pushAll (l : List Ev) : St := l.foldl pushS ⟨[], 0, []⟩
theorem pushAll_snoc (l : List Ev) (i : Nat) (h : i < l.length) : pushAll (l.take (i + 1)) = pushS (pushAll (l.take i)) (l.getD i e0) := by
  unfold pushAll
  rw [List.take_add_one, List.foldl_append, List.getD_eq_getElem?_getD, List.getElem?_eq_getElem h]
  rfl
theorem num_take (l : List Ev) (i : Nat) (h : i < l.length) : (num l).take (i + 1) = (num l).take i ++ [⟨(l.getD i e0).t, (l.getD i e0).id, (i : Int) + 1⟩] := by
  rw [List.take_add_one, ← num_getD l i h, List.getD_eq_getElem?_getD, List.getElem?_eq_getElem (by rw [num_length]; exact h)]
  rfl
theorem pushAll_two (l : List Ev) : ∀ i, i ≤ 60 → i ≤ l.length → (∀ j, j < i → okE ⟨(l.getD j e0).t, (l.getD j e0).id, 0⟩ = true) → Two ((num l).take i) (pushAll (l.take i)).q (i : Int) ∧ (pushAll (l.take i)).seq = (i : Int)
  | 0, _, _, _ => ⟨Two.zero, rfl⟩
  | i + 1, h60, h, hok => by
    obtain ⟨h1, h2⟩ := pushAll_two l i (by omega) (by omega) fun j hj => hok j (by omega)
    have hl : (pushAll (l.take i)).q.length < 60 := by rw [h1.len, List.length_take, num_length]; omega
    rw [pushAll_snoc l i (by omega), num_take l i (by omega)]
    have e : pushS (pushAll (l.take i)) (l.getD i e0) = ⟨ins ⟨(l.getD i e0).t, (l.getD i e0).id, (pushAll (l.take i)).seq + 1⟩ (pushAll (l.take i)).q, (pushAll (l.take i)).seq + 1, (pushAll (l.take i)).T ++ lineB (pushB (l.getD i e0).t (l.getD i e0).id)⟩ := by
      unfold pushS; rw [if_pos (hok i (by omega)), if_pos hl]
    rw [e, h2]
    exact ⟨by have := h1.plan (l.getD i e0).t (l.getD i e0).id; simpa using this, by simp⟩
end Go.Proofs.YtalnepcbaegaeaaDoor
