/- WALK: a line of a session, whatever it says. -/
import Derived.Test.YtfejlkgddnamoaaGreatDoorDeskLine
set_option linter.unusedVariables false
set_option linter.unusedSimpArgs false
namespace Go.Proofs.YtfejlkgddnamoaaGreatDoor
open Go Go.RowKit SimPlain HeapPlain BookPlain NumPlain SpPlain LinesPlain

theorem act_other (st : St) (ws : List (List UInt8)) (h : wayOf ⟨(ws.getD 0 []).toArray⟩ = none) : wordsA st ws = (st, badB) := by
  have key : ∀ k : List UInt8, ws.getD 0 [] = k → wayOf ⟨k.toArray⟩ = none := fun k e => by rw [← e]; exact h
  unfold wordsA
  rw [if_neg (fun c => absurd (key _ c.2) (by decide)), if_neg (fun c => absurd (key _ c.2) (by decide)), if_neg (fun c => absurd (key _ c.2) (by decide)), if_neg (fun c => absurd (key _ c.2) (by decide))]
theorem DeskS.line {w : World} {B0 D : Nat} {F : Nat → Prop} {st : St} {j : Nat} (h : DeskS w B0 D F st) (inv : Inv st j) (hj : j ≤ 5000) (hB0 : 9 ≤ B0) (env : Env w) (hg : Handle w) (hbad : BadG w) (s : List UInt8) (hs : s.length ≤ 100000) :
    Calls Tryz.prog 35 #[.pointer (some ⟨D, 0, none⟩), .string ⟨s.toArray⟩] w fun e w' => ActRes B0 D F (actP st s) w e w' := by
  show Calls Tryz.prog 35 #[.pointer (some ⟨D, 0, none⟩), .string ⟨s.toArray⟩] w fun e w' => ActRes B0 D F (wordsA st (splitSp s)) w e w'
  have eqv : ∀ (a b : List UInt8), (⟨a.toArray⟩ : ByteArray) = ⟨b.toArray⟩ → a = b := fun a b e => by
    have := congrArg (fun x : ByteArray => x.data.toList) e
    simpa using this
  by_cases h1 : (splitSp s).getD 0 [] = pushW
  · exact line_push h inv hj hB0 env hg hbad s hs _ rfl h1
  by_cases h2 : (splitSp s).getD 0 [] = popB
  · exact line_pop h inv hj hB0 env hg hbad s hs _ rfl h2
  by_cases h3 : (splitSp s).getD 0 [] = manyW
  · exact line_many h inv hj hB0 env hg hbad s hs _ rfl h3
  by_cases h4 : (splitSp s).getD 0 [] = crashW
  · exact line_crash h inv hj hB0 env hg hbad s hs _ rfl h4
  have hno : wayOf ⟨((splitSp s).getD 0 []).toArray⟩ = none := by
    unfold wayOf
    rw [if_neg (fun e : _ = wPush => h1 (eqv _ pushW e)), if_neg (fun e : _ = wPop => h2 (eqv _ popB e)), if_neg (fun e : _ = wMany => h3 (eqv _ manyW e)), if_neg (fun e : _ = wCrash => h4 (eqv _ crashW e))]
  exact line_other h inv hj hB0 env hg hbad s hs _ rfl _ hno (act_other st _ hno) rfl
end Go.Proofs.YtfejlkgddnamoaaGreatDoor
