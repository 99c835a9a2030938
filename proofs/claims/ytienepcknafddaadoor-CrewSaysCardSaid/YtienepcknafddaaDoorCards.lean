/-
  DERIVED. GIVEN WITH THE SEED: THE CARDS: each row of YtienepcknafddaaDoorRows.lean that lists a variable, with what it lists TIED to the program's text (the seventh form; the later family's looks); each row that meets fmt, with fmt's text TOLD by the authors' own Lean function (tested against real Go, not proved from fmt's source: count such statements apart). THE CARD IS WHAT COUNTS. Prove the row's statement (the work); the ties are given (YtienepcknafddaaDoorTie.lean); close each card by the builder's one call (the guide's Derived/Test/ToyasCard.lean, 'card_holds'). Laid BY PROGRAM, IN A SANDBOX (cutbox-door.mjs). By AI agents, Wed Nov 11 2026. No macro, syntax, notation, axiom, sorry.
-/
import Derived.Test.YtienepcknafddaaDoorRows
import GoSem.ClaimSeven
namespace Go.Proofs.YtienepcknafddaaDoor
namespace Rows

/-- THE TIED CARD OF 'ricksteadlaw6.CrewSays'. -/
def crewSaysCard : Claim7 := { stood := { row := crewSaysRow, standIns := [], harness := (true, "90291ae3415239c3579e1cd70658a0c48e101955e7df37b130f86510e055104b"), looks := true }, kinds := [], alts := [], goes := true, laidByText := true, laidKinds := [.handle], laidTests := true, laidLooks := .later }
def CrewSaysCardSaid : Prop := Claim7.holds Tryd.pinned (.plain (OpenSpec.ofChange crewSaysSpec)) crewSaysCard

/-- THE SECOND FORM's CARD OF 'ricksteadlaw6.CrewSays'. -/
def crewSaysUptoCard : Claim7 := { stood := { row := crewSaysUptoRow, standIns := [], harness := (true, "90291ae3415239c3579e1cd70658a0c48e101955e7df37b130f86510e055104b"), looks := true }, kinds := [], alts := [], goes := true, laidByText := true, laidKinds := [.handle], laidTests := true, laidLooks := .later }
def CrewSaysUptoCardSaid : Prop := Claim7.holds Tryd.pinned (.plain (OpenSpec.upto crewSaysSpec)) crewSaysUptoCard
end Rows
end Go.Proofs.YtienepcknafddaaDoor
