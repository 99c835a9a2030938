/- PLAIN LAW: of a beginning of what was written just the whole lines are done (no program in sight). -/
import Derived.Test.YtalnepcbaegaeaaDoorReopenPlain
set_option linter.unusedVariables false
set_option linter.unusedSimpArgs false
namespace Go.Proofs.YtalnepcbaegaeaaDoor
open Go Go.RowKit SimPlain BookPlain NumPlain SpPlain LinesPlain

theorem logOf_cons (s : St) (e : Ev) (l : List Ev) : logOf s (e :: l) = match stepC s e with
    | none => logOf s l
    | some c => c :: logOf (doC s c) l := rfl
theorem logOf_app : ∀ (a b : List Ev) (s : St), logOf s (a ++ b) = logOf s a ++ logOf (a.foldl stepB s) b
  | [], b, s => rfl
  | e :: a, b, s => by
    show logOf s (e :: (a ++ b)) = _
    rw [logOf_cons, logOf_cons]
    cases h : stepC s e with
    | none =>
      simp only [List.foldl_cons]
      rw [logOf_app a b s, stepC_none h]
    | some c =>
      simp only [List.foldl_cons]
      rw [logOf_app a b (doC s c), (stepC_good h).2]
      rfl
theorem log_take (l : List Ev) {j i : Nat} (h : j ≤ i) : ∃ r, logOf st0 (l.take i) = logOf st0 (l.take j) ++ r := by
  have e : l.take i = l.take j ++ (l.take i).drop j := by
    conv => lhs; rw [← List.take_append_drop j (l.take i)]
    rw [List.take_take, Nat.min_eq_left h]
  rw [e, logOf_app]
  exact ⟨_, rfl⟩
theorem log_le (l : List Ev) {j i : Nat} (h : j ≤ i) : (logOf st0 (l.take j)).length ≤ (logOf st0 (l.take i)).length := by
  obtain ⟨r, e⟩ := log_take l h
  rw [e, List.length_append]; omega
theorem log_eq (l : List Ev) {j i m : Nat} (h : j ≤ i) (hm : (logOf st0 (l.take j)).length = m) : toldB (l.take j) = runC st0 ((logOf st0 (l.take i)).take m) := by
  obtain ⟨r, e⟩ := log_take l h
  rw [e, ← hm, List.take_left]
  exact (logOf_run (l.take j) st0).2.symm
/-- one step more -/
theorem log_step (l : List Ev) {j : Nat} (h : j < l.length) : (logOf st0 (l.take (j + 1))).length = (logOf st0 (l.take j)).length + (if (stepC (toldB (l.take j)) (l.getD j e0)).isSome = true then 1 else 0) := by
  have e : l.take (j + 1) = l.take j ++ [l.getD j e0] := by
    rw [List.take_add_one, List.getD_eq_getElem?_getD, List.getElem?_eq_getElem h]; rfl
  rw [e, logOf_snoc, List.length_append]
  show _ + _ = _
  cases hc : stepC (toldB (l.take j)) (l.getD j e0) with
  | none =>
    have : stepC ((l.take j).foldl stepB st0) (l.getD j e0) = none := hc
    rw [this]; rfl
  | some c =>
    have : stepC ((l.take j).foldl stepB st0) (l.getD j e0) = some c := hc
    rw [this]; rfl
theorem step_pop (s : St) (key : Int) : stepB s ⟨key, 7, 0⟩ = (popS s).1 ∧ ((popS s).2 = 0 ↔ (stepC s ⟨key, 7, 0⟩).isSome = true) := by
  obtain ⟨q, seq, T⟩ := s
  cases q with
  | nil => exact ⟨rfl, by simp [popS, stepC]⟩
  | cons x q => exact ⟨rfl, by simp [popS, stepC]⟩
theorem step_push (s : St) (key id : Int) (h7 : id ≠ 7) : stepB s ⟨key, id, 0⟩ = pushS s ⟨key, id, 0⟩ ∧ (pcode s ⟨key, id, 0⟩ = 0 ↔ (stepC s ⟨key, id, 0⟩).isSome = true) := by
  refine ⟨by unfold stepB pushS; rw [if_neg h7], ?_⟩
  unfold pcode stepC
  rw [if_neg h7]
  by_cases hok : okE ⟨key, id, 0⟩ = true
  · rw [if_pos hok, if_pos hok]
    by_cases h60 : s.q.length < 60
    · rw [if_pos h60, if_pos h60]; simp
    · rw [if_neg h60, if_neg h60]; simp
  · rw [if_neg hok, if_neg hok]; simp
theorem step_ev (s : St) (e : Ev) : stepB s e = stepB s ⟨e.t, e.id, 0⟩ ∧ stepC s e = stepC s ⟨e.t, e.id, 0⟩ := ⟨rfl, rfl⟩
/-- a beginning, opened -/
theorem torn_open (l : List Ev) (k : Nat) (hk : k ≤ (toldB l).T.length) : ∃ m, m ≤ (logOf st0 l).length ∧ ((toldB l).T.take k).count 10 = m ∧
    openP st0 (linesOf ((toldB l).T.take k)) = (runC st0 ((logOf st0 l).take m), m, 0) ∧ (linesOf ((toldB l).T.take k)).length ≤ l.length + 1 := by
  obtain ⟨h1, h2⟩ := logOf_run l st0
  have hT : (toldB l).T = (logOf st0 l).flatMap cmdL := by
    rw [show toldB l = runC st0 (logOf st0 l) from h2.symm, runC_T _ _ h1]; rfl
  rw [hT] at hk ⊢
  obtain ⟨m, p, e, hp, hm⟩ := take_cmds (logOf st0 l) k hk
  refine ⟨m, hm, ?_, ?_, ?_⟩
  · rw [e, List.count_append, count_cmds, List.count_eq_zero.2 hp, List.length_take]; omega
  · rw [e, linesOf_cmds _ _ hp, openP_cmds _ _ _ (goods_take _ _ m h1) hp, List.length_take, Nat.min_eq_left hm]
  · rw [e, linesOf_cmds _ _ hp]
    have h3 := logOf_len l st0
    have h4 : (tail1 p).length ≤ 1 := by unfold tail1; by_cases c : p = [] <;> simp [c]
    simp; omega
theorem count_step (T : List UInt8) (j : Nat) (h : j < T.length) : (T.take (j + 1)).count 10 = (T.take j).count 10 + (if T.getD j 0 = 10 then 1 else 0) := by
  rw [List.take_add_one, List.getElem?_eq_getElem h, List.count_append, List.getD_eq_getElem?_getD, List.getElem?_eq_getElem h]
  simp only [Option.toList_some, Option.getD_some, List.count_cons, List.count_nil, Nat.zero_add, beq_iff_eq]
end Go.Proofs.YtalnepcbaegaeaaDoor
