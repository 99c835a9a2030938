/- PLAIN LAW: pushes alone, written and read again (no program in sight). -/
import Derived.Test.YtfejlkgddnamoaaGreatDoorBkTexts
import Derived.Test.YtfejlkgddnamoaaGreatDoorBkOne
set_option linter.unusedVariables false
set_option linter.unusedSimpArgs false
namespace Go.Proofs.YtfejlkgddnamoaaGreatDoor
open Go Go.RowKit SimPlain BookPlain NumPlain SpPlain LinesPlain

def cmdsOf (l : List Ev) : List Cmd := l.map fun e => .push e.t e.id
theorem cmdsOf_take (l : List Ev) (i : Nat) (h : i < l.length) : cmdsOf (l.take (i + 1)) = cmdsOf (l.take i) ++ [.push (l.getD i e0).t (l.getD i e0).id] := by
  unfold cmdsOf
  rw [List.take_add_one, List.map_append, List.getD_eq_getElem?_getD, List.getElem?_eq_getElem h]
  rfl
theorem push_goods (l : List Ev) (hok : ∀ j, j < l.length → okE ⟨(l.getD j e0).t, (l.getD j e0).id, 0⟩ = true) (h60 : l.length ≤ 60) :
    ∀ i, i ≤ l.length → Goods st0 (cmdsOf (l.take i)) ∧ runC st0 (cmdsOf (l.take i)) = pushAll (l.take i)
  | 0, _ => ⟨trivial, rfl⟩
  | i + 1, h => by
    obtain ⟨h1, h2⟩ := push_goods l hok h60 i (by omega)
    have h3 := (pushAll_two l i (by omega) (by omega) (fun j hj => hok j (by omega))).1
    have hg : good (runC st0 (cmdsOf (l.take i))) (.push (l.getD i e0).t (l.getD i e0).id) := by
      rw [h2]
      exact ⟨hok i (by omega), by rw [h3.len, List.length_take, num_length]; omega⟩
    rw [cmdsOf_take l i (by omega)]
    refine ⟨goods_snoc _ _ _ h1 hg, ?_⟩
    rw [runC_snoc, h2, pushAll_snoc l i (by omega)]
    rfl
theorem cmdsOf_takes (l : List Ev) (m : Nat) : (cmdsOf l).take m = cmdsOf (l.take m) := by
  unfold cmdsOf; rw [List.map_take]
theorem top_open (l : List Ev) (hok : ∀ j, j < l.length → okE ⟨(l.getD j e0).t, (l.getD j e0).id, 0⟩ = true) (h60 : l.length ≤ 60) (k : Nat) (hk : k ≤ (pushAll l).T.length) :
    ∃ m, m ≤ l.length ∧ openP st0 (linesOf ((pushAll l).T.take k)) = (pushAll (l.take m), m, 0) ∧ (linesOf ((pushAll l).T.take k)).length ≤ l.length + 1 := by
  obtain ⟨h1, h2⟩ := push_goods l hok h60 l.length (Nat.le_refl _)
  rw [List.take_length] at h1 h2
  have hT : (pushAll l).T = (cmdsOf l).flatMap cmdL := by rw [← h2, runC_T _ _ h1]; rfl
  rw [hT] at hk ⊢
  obtain ⟨m, p, e, hp, hm⟩ := take_cmds (cmdsOf l) k hk
  have hcl : (cmdsOf l).length = l.length := by simp [cmdsOf]
  rw [hcl] at hm
  refine ⟨m, hm, ?_, ?_⟩
  · rw [e, linesOf_cmds _ _ hp, openP_cmds _ _ _ (goods_take _ _ m h1) hp, List.length_take, Nat.min_eq_left (by omega), cmdsOf_takes, (push_goods l hok h60 m hm).2]
  · rw [e, linesOf_cmds _ _ hp]
    have h4 : (tail1 p).length ≤ 1 := by unfold tail1; by_cases c : p = [] <;> simp [c]
    simp; omega
theorem lineB_pos (s : List UInt8) : 0 < (lineB s).length := by simp [lineB]; omega
theorem top_txt (l : List Ev) (hok : ∀ j, j < l.length → okE ⟨(l.getD j e0).t, (l.getD j e0).id, 0⟩ = true) (h60 : l.length ≤ 60) (h0 : 0 < l.length) : 0 < (pushAll l).T.length := by
  obtain ⟨h1, h2⟩ := push_goods l hok h60 l.length (Nat.le_refl _)
  rw [List.take_length] at h1 h2
  have hT : (pushAll l).T = (cmdsOf l).flatMap cmdL := by rw [← h2, runC_T _ _ h1]; rfl
  rw [hT]
  cases l with
  | nil => simp at h0
  | cons e l =>
    show 0 < (cmdL (.push e.t e.id) ++ (cmdsOf l).flatMap cmdL).length
    rw [List.length_append]
    have := lineB_pos (cmdB (.push e.t e.id))
    show 0 < (lineB (cmdB (.push e.t e.id))).length + _
    omega
/-- a push that goes through, or not -/
theorem pushAll_app (A : List Ev) (x : Ev) : pushAll (A ++ [x]) = pushS (pushAll A) x := by simp [pushAll]
theorem pushS_ok (A : List Ev) (x : Ev) (hok : ∀ j, j < A.length → okE ⟨(A.getD j e0).t, (A.getD j e0).id, 0⟩ = true) (h60 : A.length < 60) :
    (pcode (pushAll A) ⟨x.t, x.id, 0⟩ = 0 ↔ okE ⟨x.t, x.id, 0⟩ = true) ∧ (okE ⟨x.t, x.id, 0⟩ = false → pushS (pushAll A) ⟨x.t, x.id, 0⟩ = pushAll A) := by
  have h3 := (pushAll_two A A.length (by omega) (Nat.le_refl _) hok).1
  rw [List.take_length] at h3
  have hq : (pushAll A).q.length < 60 := by rw [h3.len, List.length_take, num_length]; omega
  constructor
  · unfold pcode
    by_cases h : okE ⟨x.t, x.id, 0⟩ = true
    · rw [if_pos h, if_pos hq]; simp [h]
    · rw [if_neg h]; simp [h]
  · intro h
    unfold pushS
    rw [if_neg (by rw [h]; decide)]
theorem pushS_ev (s : St) (x : Ev) : pushS s x = pushS s ⟨x.t, x.id, 0⟩ := rfl
theorem sorted_all (A W : List Ev) (hok : ∀ j, j < A.length → okE ⟨(A.getD j e0).t, (A.getD j e0).id, 0⟩ = true) (h60 : A.length ≤ 60) (hp : W.Perm (num A)) (hs : W.Pairwise Lt) : (pushAll A).q = W ∧ W.length = A.length := by
  have h3 := (pushAll_two A A.length h60 (Nat.le_refl _) hok).1
  rw [List.take_length, List.take_of_length_le (by rw [num_length]; exact Nat.le_refl _)] at h3
  exact ⟨sorted_unique (h3.perm.trans hp.symm) h3.sorted hs, by rw [hp.length_eq, num_length]⟩
theorem snoc_ok {A : List Ev} {x : Ev} (hok : ∀ j, j < A.length → okE ⟨(A.getD j e0).t, (A.getD j e0).id, 0⟩ = true) (hx : okE ⟨x.t, x.id, 0⟩ = true) : ∀ j, j < (A ++ [x]).length → okE ⟨((A ++ [x]).getD j e0).t, ((A ++ [x]).getD j e0).id, 0⟩ = true := fun j hj => by
  rw [List.getD_eq_getElem?_getD]
  rcases Nat.lt_or_ge j A.length with c | c
  · rw [List.getElem?_append_left c, ← List.getD_eq_getElem?_getD]; exact hok j c
  · have : j = A.length := by simp at hj; omega
    subst this
    rw [List.getElem?_append_right (Nat.le_refl _), Nat.sub_self]
    exact hx
end Go.Proofs.YtfejlkgddnamoaaGreatDoor
