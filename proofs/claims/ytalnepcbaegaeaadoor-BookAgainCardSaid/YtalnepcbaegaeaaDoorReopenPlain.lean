/- PLAIN LAW: what was written, read again (no program in sight). -/
import Derived.Test.YtalnepcbaegaeaaDoorBkLineP
import Derived.Test.YtalnepcbaegaeaaDoorLinesPlain
set_option linter.unusedVariables false
set_option linter.unusedSimpArgs false
namespace Go.Proofs.YtalnepcbaegaeaaDoor
open Go Go.RowKit SimPlain BookPlain NumPlain SpPlain LinesPlain

inductive Cmd where
  | push (t id : Int)
  | pop
def cmdB : Cmd → List UInt8
  | .push t id => pushB t id
  | .pop => popB
def doC (st : St) : Cmd → St
  | .push t id => pushS st ⟨t, id, 0⟩
  | .pop => (popS st).1
def good (st : St) : Cmd → Prop
  | .push t id => okE ⟨t, id, 0⟩ = true ∧ st.q.length < 60
  | .pop => st.q ≠ []
/-- the line of a command -/
def cmdL (c : Cmd) : List UInt8 := lineB (cmdB c)
theorem cmdL_body (c : Cmd) : cmdL c = bodyB (cmdB c) ++ [10] := lineB_body _
theorem doC_push {st : St} {t id : Int} (h : good st (.push t id)) : doC st (.push t id) = ⟨ins ⟨t, id, st.seq + 1⟩ st.q, st.seq + 1, st.T ++ lineB (pushB t id)⟩ := by
  show pushS st ⟨t, id, 0⟩ = _
  unfold pushS
  rw [if_pos h.1, if_pos h.2]
theorem doC_T {st : St} {c : Cmd} (h : good st c) : (doC st c).T = st.T ++ cmdL c := by
  cases c with
  | push t id => rw [doC_push h]; rfl
  | pop =>
    obtain ⟨q, seq, T⟩ := st
    cases q with
    | nil => exact absurd rfl h
    | cons x q => rfl
theorem line_good {st : St} {c : Cmd} (h : good st c) : lineP st (bodyB (cmdB c)) = (doC st c, 0) := by
  rw [lineP_body]
  cases c with
  | push t id =>
    show wordsP st (splitSp (pushB t id)) = _
    rw [words_push st t id h.1]
    have : pcode st ⟨t, id, 0⟩ = 0 := by unfold pcode; rw [if_pos h.1, if_pos h.2]
    rw [this]; rfl
  | pop =>
    show wordsP st (splitSp popB) = _
    rw [words_pop]
    obtain ⟨q, seq, T⟩ := st
    cases q with
    | nil => exact absurd rfl h
    | cons x q => rfl
def runC (st : St) (cs : List Cmd) : St := cs.foldl doC st
def Goods : St → List Cmd → Prop
  | _, [] => True
  | st, c :: cs => good st c ∧ Goods (doC st c) cs
theorem goods_snoc : ∀ (cs : List Cmd) (st : St) (c : Cmd), Goods st cs → good (runC st cs) c → Goods st (cs ++ [c])
  | [], st, c, _, h => ⟨h, trivial⟩
  | d :: cs, st, c, h, h' => ⟨h.1, goods_snoc cs (doC st d) c h.2 h'⟩
theorem goods_take : ∀ (cs : List Cmd) (st : St) (m : Nat), Goods st cs → Goods st (cs.take m)
  | [], st, m, _ => by simp [Goods]
  | d :: cs, st, 0, h => by simp [Goods]
  | d :: cs, st, m + 1, h => ⟨h.1, goods_take cs (doC st d) m h.2⟩
theorem runC_snoc (st : St) (cs : List Cmd) (c : Cmd) : runC st (cs ++ [c]) = doC (runC st cs) c := by simp [runC]
theorem runC_T : ∀ (cs : List Cmd) (st : St), Goods st cs → (runC st cs).T = st.T ++ cs.flatMap cmdL
  | [], st, _ => by simp [runC]
  | c :: cs, st, h => by
    have ih := runC_T cs (doC st c) h.2
    show (runC (doC st c) cs).T = _
    rw [ih, doC_T h.1, List.flatMap_cons, List.append_assoc]
/-- no end of a line stands within one -/
theorem no_end {s : List UInt8} (h : (10 : UInt8) ∉ s) : (10 : UInt8) ∉ bodyB s := by
  unfold bodyB
  intro hm
  rcases List.mem_append.1 hm with h1 | h1
  · exact h h1
  · rcases List.mem_cons.1 h1 with h2 | h2
    · exact absurd h2 (by decide)
    · exact itoa_no _ 10 (by decide) h2
theorem cmd_no_end (c : Cmd) : (10 : UInt8) ∉ bodyB (cmdB c) := by
  apply no_end
  cases c with
  | push t id =>
    show (10 : UInt8) ∉ pushB t id
    unfold pushB
    intro hm
    simp only [List.mem_append] at hm
    rcases hm with ((h | h) | h) | h
    · exact absurd h (by decide)
    · exact itoa_no _ 10 (by decide) h
    · exact absurd h (by decide)
    · exact itoa_no _ 10 (by decide) h
  | pop => exact (by decide : (10 : UInt8) ∉ popB)
def tail1 (p : List UInt8) : List (List UInt8) := if p = [] then [] else [p]
theorem linesOf_cmds : ∀ (cs : List Cmd) (p : List UInt8), (10 : UInt8) ∉ p → linesOf (cs.flatMap cmdL ++ p) = cs.map cmdL ++ tail1 p
  | [], p, h => by
    unfold tail1
    by_cases h0 : p = []
    · rw [if_pos h0, h0]; rfl
    · rw [if_neg h0]; exact linesOf_no p h h0
  | c :: cs, p, h => by
    have e : (c :: cs).flatMap cmdL ++ p = bodyB (cmdB c) ++ 10 :: (cs.flatMap cmdL ++ p) := by
      rw [List.flatMap_cons, cmdL_body]; simp
    rw [e, linesOf_end _ _ (cmd_no_end c), linesOf_cmds cs p h, List.map_cons, cmdL_body]; rfl
/-- a beginning of what was written -/
theorem take_cmds : ∀ (cs : List Cmd) (k : Nat), k ≤ (cs.flatMap cmdL).length → ∃ m p, (cs.flatMap cmdL).take k = (cs.take m).flatMap cmdL ++ p ∧ (10 : UInt8) ∉ p ∧ m ≤ cs.length
  | [], k, _ => ⟨0, [], by simp, by simp, by simp⟩
  | c :: cs, k, h => by
    rcases Nat.lt_or_ge k (cmdL c).length with hk | hk
    · refine ⟨0, (bodyB (cmdB c)).take k, ?_, fun hm => cmd_no_end c (List.mem_of_mem_take hm), Nat.zero_le _⟩
      rw [cmdL_body, List.length_append] at hk
      simp only [List.length_cons, List.length_nil] at hk
      rw [List.flatMap_cons, cmdL_body, List.append_assoc, List.take_append_of_le_length (by omega)]
      simp
    · rw [List.flatMap_cons, List.length_append] at h
      obtain ⟨m, p, e, hp, hm⟩ := take_cmds cs (k - (cmdL c).length) (by omega)
      refine ⟨m + 1, p, ?_, hp, by simp; omega⟩
      rw [List.flatMap_cons, List.take_append, List.take_of_length_le hk, e, List.take_succ_cons, List.flatMap_cons, List.append_assoc]
theorem count_cmds : ∀ (cs : List Cmd), (cs.flatMap cmdL).count 10 = cs.length
  | [] => rfl
  | c :: cs => by
    rw [List.flatMap_cons, List.count_append, count_cmds cs, cmdL_body, List.count_append, List.count_eq_zero.2 (cmd_no_end c)]
    simp; omega
/-- the lines, done one after the other: the state, how many, the first fault -/
def openP : St → List (List UInt8) → St × Nat × Int
  | st, [] => (st, 0, 0)
  | st, x :: xs => if Lib.hasSuffix x [10] = true then
      (if (lineP st (Lib.trimSuffix x [10])).2 = 0 then ((openP (lineP st (Lib.trimSuffix x [10])).1 xs).1, (openP (lineP st (Lib.trimSuffix x [10])).1 xs).2.1 + 1, (openP (lineP st (Lib.trimSuffix x [10])).1 xs).2.2)
       else ((lineP st (Lib.trimSuffix x [10])).1, 1, (lineP st (Lib.trimSuffix x [10])).2))
      else (st, 0, 0)
theorem suffix_end (l : List UInt8) : Lib.hasSuffix (l ++ [10]) [10] = true := by
  unfold Lib.hasSuffix
  rw [List.isSuffixOf_iff_suffix]
  exact ⟨l, rfl⟩
theorem trim_end (l : List UInt8) : Lib.trimSuffix (l ++ [10]) [10] = l := by
  unfold Lib.trimSuffix
  rw [if_pos (suffix_end l)]
  simp
theorem suffix_no {l : List UInt8} (h : (10 : UInt8) ∉ l) : Lib.hasSuffix l [10] = false := by
  rw [Bool.eq_false_iff]
  intro c
  unfold Lib.hasSuffix at c
  rw [List.isSuffixOf_iff_suffix] at c
  obtain ⟨t, e⟩ := c
  exact h (by rw [← e]; simp)
theorem openP_cmds : ∀ (cs : List Cmd) (st : St) (p : List UInt8), Goods st cs → (10 : UInt8) ∉ p → openP st (cs.map cmdL ++ tail1 p) = (runC st cs, cs.length, 0)
  | [], st, p, _, hp => by
    unfold tail1
    by_cases h0 : p = []
    · rw [if_pos h0]; rfl
    · rw [if_neg h0]
      simp [openP, suffix_no hp, runC]
  | c :: cs, st, p, h, hp => by
    have ih := openP_cmds cs (doC st c) p h.2 hp
    rw [List.map_cons, List.cons_append, openP, cmdL_body, suffix_end, trim_end, line_good h.1, if_pos rfl, if_pos rfl, ih]
    rfl
/-- what a step of a session does -/
def stepC (s : St) (e : Ev) : Option Cmd :=
  if e.id = 7 then (match s.q with | [] => none | _ :: _ => some .pop)
  else if okE ⟨e.t, e.id, 0⟩ = true then (if s.q.length < 60 then some (.push e.t e.id) else none) else none
theorem stepC_good {s : St} {e : Ev} {c : Cmd} (h : stepC s e = some c) : good s c ∧ stepB s e = doC s c := by
  unfold stepC at h
  unfold stepB
  by_cases h7 : e.id = 7
  · rw [if_pos h7] at h ⊢
    obtain ⟨q, seq, T⟩ := s
    cases q with
    | nil => cases h
    | cons x q =>
      simp only [Option.some.injEq] at h
      subst h
      exact ⟨by simp [good], rfl⟩
  · rw [if_neg h7] at h ⊢
    by_cases hok : okE ⟨e.t, e.id, 0⟩ = true
    · rw [if_pos hok] at h ⊢
      by_cases h60 : s.q.length < 60
      · rw [if_pos h60] at h ⊢
        simp only [Option.some.injEq] at h
        subst h
        exact ⟨⟨hok, h60⟩, (doC_push ⟨hok, h60⟩).symm⟩
      · rw [if_neg h60] at h; cases h
    · rw [if_neg hok] at h; cases h
theorem stepC_none {s : St} {e : Ev} (h : stepC s e = none) : stepB s e = s := by
  unfold stepC at h
  unfold stepB
  by_cases h7 : e.id = 7
  · rw [if_pos h7] at h ⊢
    obtain ⟨q, seq, T⟩ := s
    cases q with
    | nil => rfl
    | cons x q => cases h
  · rw [if_neg h7] at h ⊢
    by_cases hok : okE ⟨e.t, e.id, 0⟩ = true
    · rw [if_pos hok] at h ⊢
      by_cases h60 : s.q.length < 60
      · rw [if_pos h60] at h; cases h
      · rw [if_neg h60]
    · rw [if_neg hok]
def st0 : St := ⟨[], 0, []⟩
/-- the commands that a session does -/
def logOf : St → List Ev → List Cmd
  | _, [] => []
  | s, e :: l => match stepC s e with
    | none => logOf s l
    | some c => c :: logOf (doC s c) l
theorem logOf_run : ∀ (l : List Ev) (s : St), Goods s (logOf s l) ∧ runC s (logOf s l) = l.foldl stepB s
  | [], s => ⟨trivial, rfl⟩
  | e :: l, s => by
    unfold logOf
    cases h : stepC s e with
    | none =>
      rw [List.foldl_cons, stepC_none h]
      exact logOf_run l s
    | some c =>
      obtain ⟨h1, h2⟩ := stepC_good h
      rw [List.foldl_cons, h2]
      obtain ⟨h3, h4⟩ := logOf_run l (doC s c)
      exact ⟨⟨h1, h3⟩, h4⟩
theorem logOf_snoc : ∀ (l : List Ev) (s : St) (e : Ev), logOf s (l ++ [e]) = logOf s l ++ (match stepC (l.foldl stepB s) e with | none => [] | some c => [c])
  | [], s, e => by
    show logOf s [e] = _
    unfold logOf
    cases h : stepC s e <;> simp [logOf, h]
  | d :: l, s, e => by
    show logOf s (d :: (l ++ [e])) = _
    unfold logOf
    cases h : stepC s d with
    | none =>
      simp only [List.foldl_cons]
      rw [logOf_snoc l s e, stepC_none h]
    | some c =>
      simp only [List.foldl_cons]
      rw [logOf_snoc l (doC s c) e, (stepC_good h).2]
      rfl
theorem logOf_len : ∀ (l : List Ev) (s : St), (logOf s l).length ≤ l.length
  | [], s => by simp [logOf]
  | e :: l, s => by
    unfold logOf
    cases h : stepC s e with
    | none => have := logOf_len l s; simp; omega
    | some c => have := logOf_len l (doC s c); simp; omega
end Go.Proofs.YtalnepcbaegaeaaDoor
