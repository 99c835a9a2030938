/- PLAIN LAW: what a line says (no program in sight). -/
import Derived.Test.YtalnepcbaegaeaaDoorBkPushS
import Derived.Test.YtalnepcbaegaeaaDoorNumPlain
import Derived.Test.YtalnepcbaegaeaaDoorSpPlain
set_option linter.unusedVariables false
set_option linter.unusedSimpArgs false
namespace Go.Proofs.YtalnepcbaegaeaaDoor
open Go Go.RowKit SimPlain BookPlain NumPlain SpPlain

def popS (st : St) : St × Int := match st.q with
  | [] => (st, 5)
  | _ :: q => (⟨q, st.seq, st.T ++ lineB popB⟩, 0)
/-- the words of a line, done -/
def pushW : List UInt8 := [112, 117, 115, 104]
def wordsP (st : St) (ws : List (List UInt8)) : St × Int :=
  if ws.length = 1 ∧ ws.getD 0 [] = popB then popS st
  else if ws.length = 3 ∧ ws.getD 0 [] = pushW then
    match numP (ws.getD 1 []), numP (ws.getD 2 []) with
    | some k, some i => (pushS st ⟨k, i, 0⟩, pcode st ⟨k, i, 0⟩)
    | _, _ => (st, 2)
  else (st, 2)
/-- a line, done -/
def lineP (st : St) (s : List UInt8) : St × Int :=
  match lastSp s with
  | none => (st, 2)
  | some at_ => match numP (s.drop (at_ + 1)) with
    | none => (st, 2)
    | some n => if n = (sumB (s.take at_) : Nat) then wordsP st (splitSp (s.take at_)) else (st, 7)
/-- a line as it is written, without its end -/
def bodyB (s : List UInt8) : List UInt8 := s ++ 32 :: Lib.itoa (sumB s : Nat)
theorem lineB_body (s : List UInt8) : lineB s = bodyB s ++ [10] := by simp [lineB, bodyB]
theorem lineP_body (st : St) (s : List UInt8) : lineP st (bodyB s) = wordsP st (splitSp s) := by
  have hb : sumB s < 9973 := by
    unfold sumB; exact sumAt_lt s s.length
  unfold lineP bodyB
  rw [lastSp_cut _ _ (itoa_no _ 32 (by decide))]
  simp only
  rw [List.take_left, show s.length + 1 = (s ++ [32]).length by simp, show s ++ 32 :: Lib.itoa (sumB s : Nat) = (s ++ [32]) ++ Lib.itoa (sumB s : Nat) by simp, List.drop_left, numP_itoa _ (by omega) (by omega)]
  simp
theorem words_pop (st : St) : wordsP st (splitSp popB) = popS st := rfl
theorem words_push (st : St) (t id : Int) (h : okE ⟨t, id, 0⟩ = true) : wordsP st (splitSp (pushB t id)) = (pushS st ⟨t, id, 0⟩, pcode st ⟨t, id, 0⟩) := by
  obtain ⟨t0, t1, d0, d1⟩ := okE_of h
  have e : pushB t id = pushW ++ 32 :: (Lib.itoa t ++ 32 :: Lib.itoa id) := by simp [pushB, pushW]
  have h32 : ∀ n : Int, (32 : UInt8) ∉ Lib.itoa n := fun n => itoa_no n 32 (by decide)
  rw [e, splitSp_cut _ _ (by decide), splitSp_cut _ _ (h32 t), splitSp_no _ (h32 id)]
  unfold wordsP
  rw [if_neg (by simp), if_pos (by simp)]
  simp only [List.getD_cons_succ, List.getD_cons_zero]
  rw [numP_itoa t (by omega) (by omega), numP_itoa id (by omega) (by omega)]
end Go.Proofs.YtalnepcbaegaeaaDoor
