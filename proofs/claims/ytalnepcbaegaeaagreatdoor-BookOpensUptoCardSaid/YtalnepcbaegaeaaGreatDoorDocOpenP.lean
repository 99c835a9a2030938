/- PLAIN LAW: the document goes through a text byte by byte (no program in sight). -/
import Derived.Test.YtalnepcbaegaeaaGreatDoorReopenPlain
import Derived.Test.YtalnepcbaegaeaaGreatDoorBkOpen
set_option linter.unusedVariables false
set_option linter.unusedSimpArgs false
namespace Go.Proofs.YtalnepcbaegaeaaGreatDoor
open Go Go.RowKit SimPlain BookPlain NumPlain SpPlain LinesPlain

/-- behind i bytes: whole lines up to f, all done -/
structure Scan (s : List UInt8) (i f n : Nat) (st : St) : Prop where
  le : f ≤ i
  no : (10 : UInt8) ∉ (s.take i).drop f
  rest : ∀ r, openP st (linesOf (s.drop f)) = r → openP st0 (linesOf s) = (r.1, n + r.2.1, r.2.2)
  txt : st.T.length ≤ 100 * n
  cnt : n ≤ f
theorem Scan.start (s : List UInt8) : Scan s 0 0 0 st0 := ⟨Nat.le_refl _, by simp, fun r h => by rw [List.drop_zero] at h; rw [h]; simp, by show (0 : Nat) ≤ _; omega, Nat.le_refl _⟩
theorem Scan.on {s : List UInt8} {i f n : Nat} {st : St} (h : Scan s i f n st) (hi : i < s.length) (h10 : s.getD i 0 ≠ 10) : Scan s (i + 1) f n st := by
  refine ⟨Nat.le_succ_of_le h.le, ?_, h.rest, h.txt, h.cnt⟩
  rw [List.take_add_one, List.getElem?_eq_getElem hi, List.drop_append_of_le_length (by rw [List.length_take]; have := h.le; omega)]
  rw [List.getD_eq_getElem?_getD, List.getElem?_eq_getElem hi] at h10
  intro m
  rcases List.mem_append.1 m with m | m
  · exact h.no m
  · rw [Option.toList_some, List.mem_singleton] at m
    exact h10 m.symm
theorem Scan.cut {s : List UInt8} {i f n : Nat} {st : St} (h : Scan s i f n st) (hi : i < s.length) (h10 : s.getD i 0 = 10) : linesOf (s.drop f) = ((s.take i).drop f ++ [10]) :: linesOf (s.drop (i + 1)) := by
  have e : s.drop f = (s.take i).drop f ++ 10 :: s.drop (i + 1) := by
    conv => lhs; rw [← List.take_append_drop i s]
    rw [List.drop_append_of_le_length (by rw [List.length_take]; have := h.le; omega), List.drop_eq_getElem_cons hi]
    congr 2
    rw [List.getD_eq_getElem?_getD, List.getElem?_eq_getElem hi] at h10
    exact h10
  rw [e, linesOf_end _ _ h.no]
/-- a line that is wrong -/
theorem Scan.bad {s : List UInt8} {i f n : Nat} {st : St} (h : Scan s i f n st) (hi : i < s.length) (h10 : s.getD i 0 = 10) (hc : (lineP st ((s.take i).drop f)).2 ≠ 0) :
    openP st0 (linesOf s) = ((lineP st ((s.take i).drop f)).1, n + 1, (lineP st ((s.take i).drop f)).2) := by
  have e := h.cut hi h10
  refine h.rest ((lineP st ((s.take i).drop f)).1, 1, (lineP st ((s.take i).drop f)).2) ?_
  rw [e, openP, suffix_end, trim_end, if_pos rfl, if_neg hc]
theorem line_txt (st : St) (x : List UInt8) : (lineP st x).1.T.length ≤ st.T.length + 90 := by
  have hpop : (popS st).1.T.length ≤ st.T.length + 90 := by
    obtain ⟨q, seq, T⟩ := st
    cases q with
    | nil => exact Nat.le_add_right _ _
    | cons y q =>
      have := lineB_len popB (by decide)
      show (T ++ lineB popB).length ≤ T.length + 90
      rw [List.length_append]; omega
  have hpush : ∀ k i, (pushS st ⟨k, i, 0⟩).T.length ≤ st.T.length + 90 := fun k i => by
    unfold pushS
    by_cases hok : okE ⟨k, i, 0⟩ = true
    · rw [if_pos hok]
      by_cases h60 : st.q.length < 60
      · rw [if_pos h60]
        obtain ⟨t0, t1, d0, d1⟩ := okE_of hok
        have := lineB_len (pushB k i) (pushB_len k i t0 t1 d0 d1)
        show (st.T ++ lineB (pushB k i)).length ≤ _
        rw [List.length_append]; omega
      · rw [if_neg h60]; omega
    · rw [if_neg hok]; omega
  unfold lineP
  cases lastSp x with
  | none => show st.T.length ≤ _; omega
  | some m =>
    simp only
    cases numP (x.drop (m + 1)) with
    | none => show st.T.length ≤ _; omega
    | some v =>
      simp only
      by_cases hv : v = (sumB (x.take m) : Nat)
      · rw [if_pos hv]
        unfold wordsP
        split
        · exact hpop
        · split
          · split
            · exact hpush _ _
            · show st.T.length ≤ _; omega
          · show st.T.length ≤ _; omega
      · rw [if_neg hv]; show st.T.length ≤ _; omega
theorem Scan.good {s : List UInt8} {i f n : Nat} {st : St} (h : Scan s i f n st) (hi : i < s.length) (h10 : s.getD i 0 = 10) (hc : (lineP st ((s.take i).drop f)).2 = 0) :
    Scan s (i + 1) (i + 1) (n + 1) (lineP st ((s.take i).drop f)).1 := by
  have e := h.cut hi h10
  refine ⟨Nat.le_refl _, ?_, fun r hr => ?_, ?_, by have := h.cnt; have := h.le; omega⟩
  · rw [List.drop_eq_nil_of_le (by rw [List.length_take]; omega)]; simp
  · have h2 := h.rest (r.1, r.2.1 + 1, r.2.2) (by rw [e, openP, suffix_end, trim_end, if_pos rfl, if_pos hc, hr])
    rw [h2]
    simp only [Prod.mk.injEq, true_and, and_true]
    omega
  · have := line_txt st ((s.take i).drop f)
    have := h.txt
    omega
theorem Scan.done {s : List UInt8} {f n : Nat} {st : St} (h : Scan s s.length f n st) : openP st0 (linesOf s) = (st, n, 0) := by
  have hno := h.no
  rw [List.take_length] at hno
  refine h.rest (st, 0, 0) ?_
  by_cases h0 : s.drop f = []
  · rw [h0, linesOf_nil]; rfl
  · rw [linesOf_no _ hno h0, openP, suffix_no hno]
    rfl
end Go.Proofs.YtalnepcbaegaeaaGreatDoor
