/- PLAIN LAW: a session at a desk, line by line (no program in sight). -/
import Derived.Test.YtfejlkgddnamoaaGreatDoorBkTexts
set_option linter.unusedVariables false
set_option linter.unusedSimpArgs false
namespace Go.Proofs.YtfejlkgddnamoaaGreatDoor
open Go Go.RowKit SimPlain BookPlain NumPlain SpPlain LinesPlain

def manyW : List UInt8 := [109, 97, 110, 121]
def crashW : List UInt8 := [99, 114, 97, 115, 104]
def badB : List UInt8 := [98, 97, 100]
def okB : List UInt8 := [111, 107]
def foundB : List UInt8 := [102, 111, 117, 110, 100, 32]
/-- the name of an error -/
def called (e : Int) : List UInt8 :=
  if e = 0 then [79, 75] else if e = 1 then [69, 114, 114, 82, 97, 110, 103, 101] else if e = 2 then [69, 114, 114, 83, 121, 110, 116, 97, 120]
  else if e = 3 then [69, 114, 114, 83, 104, 97, 112, 101] else if e = 4 then [69, 114, 114, 70, 117, 108, 108] else if e = 5 then [69, 114, 114, 78, 111, 110, 101]
  else if e = 6 then [69, 114, 114, 67, 108, 97, 115, 104] else if e = 7 then [69, 114, 114, 83, 117, 109] else if e = 8 then [69, 114, 114, 83, 116, 97, 116, 101]
  else [69, 114, 114, 110, 111]
/-- a number of at most seven digits -/
def shortP (s : List UInt8) : Option Int := match numP s with
  | some n => if (Lib.trimPrefix s [45]).length ≤ 7 then some n else none
  | none => none
def crashP (st : St) (n : Int) : St × List UInt8 :=
  if n < 0 then (st, badB)
  else if (openP st0 (linesOf (st.T.take n.toNat))).2.2 = 0 then ((openP st0 (linesOf (st.T.take n.toNat))).1, foundB ++ Lib.itoa ((openP st0 (linesOf (st.T.take n.toNat))).2.1 : Nat))
  else (st, called (openP st0 (linesOf (st.T.take n.toNat))).2.2)
def popA (st : St) : St × List UInt8 := match st.q with
  | [] => (st, called 5)
  | x :: q => (⟨q, st.seq, st.T ++ lineB popB⟩, Lib.itoa x.t ++ 32 :: Lib.itoa x.id)
def pushA (st : St) (k i : Int) : St × List UInt8 := if pcode st ⟨k, i, 0⟩ = 0 then (pushS st ⟨k, i, 0⟩, okB) else (st, called (pcode st ⟨k, i, 0⟩))
/-- the words of a line of a session -/
def wordsA (st : St) (ws : List (List UInt8)) : St × List UInt8 :=
  if ws.length = 1 ∧ ws.getD 0 [] = manyW then (st, Lib.itoa (st.q.length : Nat))
  else if ws.length = 1 ∧ ws.getD 0 [] = popB then popA st
  else if ws.length = 3 ∧ ws.getD 0 [] = pushW then
    match shortP (ws.getD 1 []), shortP (ws.getD 2 []) with
    | some k, some i => pushA st k i
    | _, _ => (st, badB)
  else if ws.length = 2 ∧ ws.getD 0 [] = crashW then
    match shortP (ws.getD 1 []) with
    | some n => crashP st n
    | none => (st, badB)
  else (st, badB)
def actP (st : St) (s : List UInt8) : St × List UInt8 := wordsA st (splitSp s)
/-- a line with its end, if it has one -/
def lineA (st : St) (x : List UInt8) : St × List UInt8 := actP st (Lib.trimSuffix x [10])
/-- all answers -/
def sessP : St → List (List UInt8) → List UInt8
  | _, [] => []
  | st, x :: xs => (lineA st x).2 ++ 10 :: sessP (lineA st x).1 xs
def stateA (st : St) (xs : List (List UInt8)) : St := xs.foldl (fun s x => (lineA s x).1) st
theorem sess_app : ∀ (a b : List (List UInt8)) (st : St), sessP st (a ++ b) = sessP st a ++ sessP (stateA st a) b
  | [], b, st => rfl
  | x :: a, b, st => by
    show (lineA st x).2 ++ 10 :: sessP (lineA st x).1 (a ++ b) = ((lineA st x).2 ++ 10 :: sessP (lineA st x).1 a) ++ sessP (stateA (lineA st x).1 a) b
    rw [sess_app a b]; simp
theorem sess_snoc (a : List (List UInt8)) (x : List UInt8) (st : St) : sessP st (a ++ [x]) = sessP st a ++ ((lineA (stateA st a) x).2 ++ [10]) := by rw [sess_app]; rfl
theorem stateA_snoc (a : List (List UInt8)) (x : List UInt8) (st : St) : stateA st (a ++ [x]) = (lineA (stateA st a) x).1 := by simp [stateA]

/-! what bounds a state -/
def Inv (st : St) (j : Nat) : Prop := ∃ cs, Goods st0 cs ∧ st = runC st0 cs ∧ cs.length ≤ j
theorem Inv.zero : Inv st0 0 := ⟨[], trivial, rfl, Nat.le_refl _⟩
theorem Inv.mono {st : St} {i j : Nat} (h : Inv st i) (hij : i ≤ j) : Inv st j := by
  obtain ⟨cs, h1, h2, h3⟩ := h
  exact ⟨cs, h1, h2, by omega⟩
theorem runC_bound : ∀ (cs : List Cmd) (st : St), Goods st cs → st.q.length ≤ 60 → (runC st cs).q.length ≤ 60 ∧ st.seq ≤ (runC st cs).seq ∧ (runC st cs).seq ≤ st.seq + (cs.length : Int) ∧ (runC st cs).T.length ≤ st.T.length + 90 * cs.length
  | [], st, _, h => ⟨h, Int.le_refl _, by simp [runC], by simp [runC]⟩
  | c :: cs, st, hg, h => by
    have key : (doC st c).q.length ≤ 60 ∧ st.seq ≤ (doC st c).seq ∧ (doC st c).seq ≤ st.seq + 1 ∧ (doC st c).T.length ≤ st.T.length + 90 := by
      have hgc := hg.1
      cases c with
      | push t id =>
        rw [doC_push hgc]
        obtain ⟨t0, t1, d0, d1⟩ := okE_of hgc.1
        have h1 := lineB_len (pushB t id) (pushB_len t id t0 t1 d0 d1)
        have h2 := hgc.2
        refine ⟨?_, ?_, ?_, ?_⟩
        · show (ins _ st.q).length ≤ 60
          rw [(ins_perm _ _).length_eq]; simp; omega
        · show st.seq ≤ st.seq + 1; omega
        · show st.seq + 1 ≤ st.seq + 1; omega
        · show (st.T ++ lineB (pushB t id)).length ≤ _
          rw [List.length_append]; omega
      | pop =>
        obtain ⟨q, seq, T⟩ := st
        cases q with
        | nil => exact absurd rfl hgc
        | cons x q =>
          have h2 := lineB_len popB (by decide)
          simp only [List.length_cons] at h
          refine ⟨?_, ?_, ?_, ?_⟩
          · show q.length ≤ 60; omega
          · show seq ≤ seq; omega
          · show seq ≤ seq + 1; omega
          · show (T ++ lineB popB).length ≤ _
            rw [List.length_append]; show T.length + _ ≤ T.length + 90; omega
    obtain ⟨k1, k2, k3, k4⟩ := key
    obtain ⟨r1, r2, r3, r4⟩ := runC_bound cs (doC st c) hg.2 k1
    refine ⟨r1, by show st.seq ≤ (runC (doC st c) cs).seq; omega, ?_, ?_⟩
    · show (runC (doC st c) cs).seq ≤ _
      simp only [List.length_cons]; omega
    · show (runC (doC st c) cs).T.length ≤ _
      simp only [List.length_cons]; omega
theorem Inv.bounds {st : St} {j : Nat} (h : Inv st j) : st.q.length ≤ 60 ∧ 0 ≤ st.seq ∧ st.seq ≤ (j : Int) ∧ st.T.length ≤ 90 * j := by
  obtain ⟨cs, h1, rfl, h3⟩ := h
  obtain ⟨r1, r2, r3, r4⟩ := runC_bound cs st0 h1 (by decide)
  have e1 : st0.seq = 0 := rfl
  have e2 : st0.T.length = 0 := rfl
  refine ⟨r1, by omega, by omega, by omega⟩
theorem Inv.crash {st : St} {j : Nat} (h : Inv st j) (k : Nat) : (openP st0 (linesOf (st.T.take k))).2.2 = 0 ∧ Inv (openP st0 (linesOf (st.T.take k))).1 j ∧ (linesOf (st.T.take k)).length ≤ j + 1 ∧ (openP st0 (linesOf (st.T.take k))).2.1 ≤ j := by
  obtain ⟨cs, h1, rfl, h3⟩ := h
  have hT : (runC st0 cs).T = cs.flatMap cmdL := by rw [runC_T _ _ h1]; rfl
  have e : (runC st0 cs).T.take k = (runC st0 cs).T.take (min k (runC st0 cs).T.length) := by
    rcases Nat.le_total k (runC st0 cs).T.length with c | c
    · rw [Nat.min_eq_left c]
    · rw [Nat.min_eq_right c, List.take_of_length_le c, List.take_length]
  have hk : min k (runC st0 cs).T.length ≤ (runC st0 cs).T.length := Nat.min_le_right _ _
  rw [e]
  generalize min k (runC st0 cs).T.length = m at *
  rw [hT] at hk ⊢
  obtain ⟨n, p, e2, hp, hn⟩ := take_cmds cs m hk
  have hg := goods_take _ _ n h1
  rw [e2, linesOf_cmds _ _ hp, openP_cmds _ _ _ hg hp]
  refine ⟨rfl, ⟨_, hg, rfl, by rw [List.length_take]; omega⟩, ?_, by show (cs.take n).length ≤ j; rw [List.length_take]; omega⟩
  have h4 : (tail1 p).length ≤ 1 := by unfold tail1; by_cases c : p = [] <;> simp [c]
  simp; omega
theorem Inv.pop {st : St} {j : Nat} (h : Inv st j) {x : Ev} {q : List Ev} (hq : st.q = x :: q) : Inv ⟨q, st.seq, st.T ++ lineB popB⟩ (j + 1) := by
  obtain ⟨cs, h1, rfl, h3⟩ := h
  refine ⟨cs ++ [.pop], goods_snoc _ _ _ h1 (by show (runC st0 cs).q ≠ []; rw [hq]; simp), ?_, by simp; omega⟩
  rw [runC_snoc]
  show _ = (popS (runC st0 cs)).1
  unfold popS
  rw [hq]
theorem Inv.push {st : St} {j : Nat} (h : Inv st j) {k i : Int} (hc : pcode st ⟨k, i, 0⟩ = 0) : Inv (pushS st ⟨k, i, 0⟩) (j + 1) := by
  obtain ⟨cs, h1, rfl, h3⟩ := h
  have hg : good (runC st0 cs) (.push k i) := by
    unfold pcode at hc
    by_cases hok : okE ⟨k, i, 0⟩ = true
    · rw [if_pos hok] at hc
      by_cases h60 : (runC st0 cs).q.length < 60
      · exact ⟨hok, h60⟩
      · rw [if_neg h60] at hc; cases hc
    · rw [if_neg hok] at hc; cases hc
  exact ⟨cs ++ [.push k i], goods_snoc _ _ _ h1 hg, by rw [runC_snoc]; rfl, by simp; omega⟩
theorem Inv.act {st : St} {j : Nat} (h : Inv st j) (s : List UInt8) : Inv (actP st s).1 (j + 1) := by
  have h0 : Inv st (j + 1) := h.mono (by omega)
  unfold actP wordsA
  split
  · exact h0
  · split
    · unfold popA
      cases hq : st.q with
      | nil => exact h0
      | cons x q => exact h.pop hq
    · split
      · cases shortP ((splitSp s).getD 1 []) with
        | none => exact h0
        | some k =>
          cases shortP ((splitSp s).getD 2 []) with
          | none => exact h0
          | some i =>
            simp only
            unfold pushA
            by_cases hc : pcode st ⟨k, i, 0⟩ = 0
            · rw [if_pos hc]; exact h.push hc
            · rw [if_neg hc]; exact h0
      · split
        · cases shortP ((splitSp s).getD 1 []) with
          | none => exact h0
          | some n =>
            simp only
            unfold crashP
            by_cases hn : n < 0
            · rw [if_pos hn]; exact h0
            · obtain ⟨c1, c2, _, _⟩ := h.crash n.toNat
              rw [if_neg hn, if_pos c1]
              exact c2.mono (by omega)
        · exact h0
theorem Inv.all (st : St) (j : Nat) (h : Inv st j) : ∀ xs : List (List UInt8), Inv (stateA st xs) (j + xs.length)
  | [] => h
  | x :: xs => by
    have := Inv.all (lineA st x).1 (j + 1) (h.act _) xs
    show Inv (stateA (lineA st x).1 xs) _
    rw [List.length_cons, show j + (xs.length + 1) = j + 1 + xs.length by omega]
    exact this

/-! no answer holds an end of a line; none is long -/
theorem called_no (e : Int) : (10 : UInt8) ∉ called e ∧ (called e).length ≤ 40 := by
  unfold called
  repeat' split
  all_goals exact ⟨by decide, by decide⟩
theorem itoa_le (n : Int) (h0 : -9223372036854775807 ≤ n) (h1 : n ≤ 9223372036854775807) : (10 : UInt8) ∉ Lib.itoa n ∧ (Lib.itoa n).length ≤ 21 := ⟨itoa_no n 10 (by decide), itoa_len n h0 h1⟩
/-- what waits is as it was pushed -/
def Fits (st : St) : Prop := ∀ e ∈ st.q, okE ⟨e.t, e.id, 0⟩ = true
theorem fits_run : ∀ (cs : List Cmd) (st : St), Goods st cs → Fits st → Fits (runC st cs)
  | [], _, _, h => h
  | c :: cs, st, hg, h => by
    refine fits_run cs (doC st c) hg.2 ?_
    have hgc := hg.1
    cases c with
    | push t id =>
      rw [doC_push hgc]
      intro e he
      have he : e ∈ ins ⟨t, id, st.seq + 1⟩ st.q := he
      rcases List.mem_cons.1 ((ins_perm _ _).mem_iff.1 he) with c | c
      · rw [c]; exact hgc.1
      · exact h e c
    | pop =>
      obtain ⟨q, seq, T⟩ := st
      cases q with
      | nil => exact absurd rfl hgc
      | cons x q => exact fun e he => h e (List.mem_cons_of_mem _ he)
theorem Inv.fits {st : St} {j : Nat} (h : Inv st j) : Fits st := by
  obtain ⟨cs, h1, rfl, _⟩ := h
  exact fits_run cs st0 h1 (fun e he => absurd he (by simp [st0]))
theorem act_no {st : St} {j : Nat} (h : Inv st j) (hj : j ≤ 100000) (s : List UInt8) : (10 : UInt8) ∉ (actP st s).2 ∧ (actP st s).2.length ≤ 50 := by
  have hbad : (10 : UInt8) ∉ badB ∧ badB.length ≤ 50 := ⟨by decide, by decide⟩
  obtain ⟨b1, b2, b3, b4⟩ := h.bounds
  unfold actP wordsA
  split
  · have := itoa_le (st.q.length : Nat) (by omega) (by omega)
    exact ⟨this.1, Nat.le_trans this.2 (by decide)⟩
  · split
    · unfold popA
      cases hq : st.q with
      | nil => exact ⟨show (10 : UInt8) ∉ called 5 by decide, show (called 5).length ≤ 50 by decide⟩
      | cons x q =>
        obtain ⟨t0, t1, d0, d1⟩ := okE_of (h.fits x (by rw [hq]; simp))
        have k1 := itoa_le x.t (by omega) (by omega)
        have k2 := itoa_le x.id (by omega) (by omega)
        refine ⟨fun hm => ?_, by show (_ ++ _ :: _ : List UInt8).length ≤ 50; simp; omega⟩
        rcases List.mem_append.1 hm with c | c
        · exact k1.1 c
        · rcases List.mem_cons.1 c with c | c
          · exact absurd c (by decide)
          · exact k2.1 c
    · split
      · cases shortP ((splitSp s).getD 1 []) with
        | none => exact hbad
        | some k =>
          cases shortP ((splitSp s).getD 2 []) with
          | none => exact hbad
          | some i =>
            simp only
            unfold pushA
            by_cases hc : pcode st ⟨k, i, 0⟩ = 0
            · rw [if_pos hc]; exact ⟨show (10 : UInt8) ∉ okB by decide, show okB.length ≤ 50 by decide⟩
            · rw [if_neg hc]; have := called_no (pcode st ⟨k, i, 0⟩); exact ⟨this.1, Nat.le_trans this.2 (by decide)⟩
      · split
        · cases shortP ((splitSp s).getD 1 []) with
          | none => exact hbad
          | some n =>
            simp only
            unfold crashP
            by_cases hn : n < 0
            · rw [if_pos hn]; exact hbad
            · obtain ⟨c1, c2, _, c4⟩ := h.crash n.toNat
              rw [if_neg hn, if_pos c1]
              have k1 := itoa_le ((openP st0 (linesOf (st.T.take n.toNat))).2.1 : Nat) (by omega) (by omega)
              refine ⟨fun hm => ?_, by show (_ ++ _ : List UInt8).length ≤ 50; rw [List.length_append]; have : foundB.length = 6 := rfl; omega⟩
              rcases List.mem_append.1 hm with c | c
              · exact absurd c (by decide)
              · exact k1.1 c
        · exact hbad
/-! as many answers as lines -/
theorem sess_count : ∀ (xs : List (List UInt8)) (st : St) (j : Nat), Inv st j → j + xs.length ≤ 100000 → (sessP st xs).count 10 = xs.length ∧ (sessP st xs).length ≤ 51 * xs.length ∧ (xs ≠ [] → (sessP st xs).getLast? = some 10)
  | [], _, _, _, _ => ⟨rfl, Nat.le_refl _, fun h => absurd rfl h⟩
  | x :: xs, st, j, h, hj => by
    simp only [List.length_cons] at hj ⊢
    obtain ⟨a1, a2⟩ := act_no h (by omega) (Lib.trimSuffix x [10])
    obtain ⟨i1, i2, i3⟩ := sess_count xs (lineA st x).1 (j + 1) (h.act _) (by omega)
    show ((lineA st x).2 ++ 10 :: sessP (lineA st x).1 xs).count 10 = _ ∧ ((lineA st x).2 ++ 10 :: sessP (lineA st x).1 xs).length ≤ _ ∧ (_ → ((lineA st x).2 ++ 10 :: sessP (lineA st x).1 xs).getLast? = _)
    have a1' : (10 : UInt8) ∉ (lineA st x).2 := a1
    have a2' : (lineA st x).2.length ≤ 50 := a2
    refine ⟨?_, ?_, fun _ => ?_⟩
    · rw [List.count_append, List.count_eq_zero.2 a1', List.count_cons_self, i1]; omega
    · rw [List.length_append, List.length_cons]; omega
    · rw [List.getLast?_append, List.getLast?_cons]
      by_cases h0 : xs = []
      · rw [h0]; rfl
      · rw [i3 h0]; rfl
/-! where a text is cut behind an end -/
theorem split10 : ∀ a : List UInt8, (10 : UInt8) ∈ a → ∃ l r, a = l ++ 10 :: r ∧ (10 : UInt8) ∉ l
  | [], h => absurd h (by simp)
  | c :: a, h => by
    by_cases hc : c = 10
    · exact ⟨[], a, by rw [hc]; rfl, by simp⟩
    · obtain ⟨l, r, e, hl⟩ := split10 a ((List.mem_cons.1 h).resolve_left (fun e => hc e.symm))
      refine ⟨c :: l, r, by rw [e]; rfl, fun hm => ?_⟩
      rcases List.mem_cons.1 hm with h1 | h1
      · exact hc h1.symm
      · exact hl h1
theorem linesOf_app : ∀ (n : Nat) (a b : List UInt8), a.length ≤ n → (a = [] ∨ a.getLast? = some 10) → linesOf (a ++ b) = linesOf a ++ linesOf b := by
  intro n
  induction n with
  | zero =>
    intro a b h _
    obtain rfl := List.eq_nil_of_length_eq_zero (Nat.le_zero.1 h)
    rfl
  | succ n ih =>
    intro a b h h10
    rcases h10 with rfl | h10
    · rfl
    · have hm : (10 : UInt8) ∈ a := List.mem_of_getLast? h10
      obtain ⟨l, r, rfl, hl⟩ := split10 _ hm
      have e : l ++ 10 :: r ++ b = l ++ 10 :: (r ++ b) := by simp
      rw [e, linesOf_end _ _ hl, linesOf_end _ _ hl, List.cons_append]
      congr 1
      refine ih r b (by simp at h; omega) ?_
      by_cases hr : r = []
      · exact .inl hr
      · right
        rw [List.getLast?_append, List.getLast?_cons] at h10
        cases hg : r.getLast? with
        | none => exact absurd (List.getLast?_eq_none_iff.1 hg) hr
        | some v => rw [hg] at h10; simpa using h10
theorem lines_num : ∀ (n : Nat) (a : List UInt8), a.length ≤ n → (linesOf a).length = a.count 10 + (if a = [] ∨ a.getLast? = some 10 then 0 else 1) := by
  intro n
  induction n with
  | zero =>
    intro a h
    obtain rfl := List.eq_nil_of_length_eq_zero (Nat.le_zero.1 h)
    rfl
  | succ n ih =>
    intro a h
    by_cases hm : (10 : UInt8) ∈ a
    · obtain ⟨l, r, rfl, hl⟩ := split10 _ hm
      rw [linesOf_end _ _ hl, List.length_cons, ih r (by simp at h; omega), List.count_append, List.count_eq_zero.2 hl, List.count_cons_self]
      have hne : ¬ (l ++ 10 :: r = []) := by simp
      have e : (l ++ 10 :: r).getLast? = some 10 ↔ (r = [] ∨ r.getLast? = some 10) := by
        rw [List.getLast?_append, List.getLast?_cons]
        cases hg : r.getLast? with
        | none => simp [List.getLast?_eq_none_iff.1 hg]
        | some v =>
          have : r ≠ [] := fun c => by rw [c] at hg; cases hg
          simp [this]
      by_cases hr : r = [] ∨ r.getLast? = some 10
      · rw [if_pos hr, if_pos (.inr (e.2 hr))]; omega
      · rw [if_neg hr, if_neg (by rintro (c | c); exact hne c; exact hr (e.1 c))]; omega
    · by_cases h0 : a = []
      · rw [h0]; rfl
      · rw [linesOf_no a hm h0, List.count_eq_zero.2 hm, if_neg (by rintro (c | c); exact h0 c; exact hm (List.mem_of_getLast? c))]; rfl
/-- how many lines are counted behind i bytes -/
def cntL (s : List UInt8) (i : Nat) : Nat := (s.take i).count 10 + (if i = s.length ∧ ¬ (s = [] ∨ s.getLast? = some 10) then 1 else 0)
theorem cntL_all (s : List UInt8) : cntL s s.length = (linesOf s).length := by
  rw [lines_num _ s (Nat.le_refl _)]
  unfold cntL
  rw [List.take_length]
  by_cases h : s = [] ∨ s.getLast? = some 10
  · rw [if_pos h, if_neg (fun c => c.2 h)]
  · rw [if_neg h, if_pos ⟨rfl, h⟩]
theorem cntL_step (s : List UInt8) (i : Nat) (h : i < s.length) : cntL s (i + 1) = cntL s i + (if s.getD i 0 = 10 ∨ i + 1 = s.length then 1 else 0) := by
  have h1 := count_step s i h
  unfold cntL
  rw [h1, if_neg (fun c : i = s.length ∧ _ => by omega)]
  have hl : i + 1 = s.length → s.getLast? = some (s.getD i 0) := fun e => by
    rw [List.getLast?_eq_getElem?, ← e, Nat.add_sub_cancel, List.getD_eq_getElem?_getD, List.getElem?_eq_getElem h]; rfl
  have hne : s ≠ [] := fun c => by rw [c] at h; simp at h
  by_cases h10 : s.getD i 0 = 10
  · have hno : ¬ (i + 1 = s.length ∧ ¬ (s = [] ∨ s.getLast? = some 10)) := by
      rintro ⟨e, c⟩
      exact c (.inr (by rw [hl e, h10]))
    rw [if_pos h10, if_neg hno, if_pos (show s.getD i 0 = 10 ∨ i + 1 = s.length from .inl h10)]
  · rw [if_neg h10]
    by_cases e : i + 1 = s.length
    · rw [if_pos ⟨e, fun c => by
        rcases c with c | c
        · exact hne c
        · rw [hl e] at c; exact h10 (Option.some.inj c)⟩, if_pos (.inr e)]
    · rw [if_neg (fun c => e c.1), if_neg (by rintro (c | c); exact h10 c; exact e c)]
/-- a beginning of a session that ends a line -/
theorem begins (s : List UInt8) (k : Nat) (hk : k ≤ s.length) (h : k = 0 ∨ s.getD (k - 1) 0 = 10) : ∃ r, sessP st0 (linesOf s) = sessP st0 (linesOf (s.take k)) ++ r := by
  have e : linesOf s = linesOf (s.take k) ++ linesOf (s.drop k) := by
    have := linesOf_app _ (s.take k) (s.drop k) (Nat.le_refl _) (by
      rcases h with h | h
      · left; rw [h]; rfl
      · rcases Nat.eq_zero_or_pos k with c | c
        · left; rw [c]; rfl
        · right
          rw [List.getLast?_eq_getElem?, List.length_take, Nat.min_eq_left hk, List.getElem?_take_of_lt (by omega), List.getElem?_eq_getElem (by omega)]
          rw [List.getD_eq_getElem?_getD, List.getElem?_eq_getElem (by omega)] at h
          exact congrArg some h)
    rw [List.take_append_drop] at this
    exact this
  rw [e, sess_app]
  exact ⟨_, rfl⟩
/-- what desk.Run tells -/
def tooB : List UInt8 := [116, 111, 111, 32, 108, 111, 110, 103, 10]
def runP (s : List UInt8) : List UInt8 := if 3000 < s.length then tooB else sessP st0 (linesOf s)
end Go.Proofs.YtfejlkgddnamoaaGreatDoor
