/-
  DERIVED. GIVEN WITH THE SEED: THE CARDS: each row of YtalnepcbaegaeaaGreatDoorRows.lean that lists a variable, with what it lists TIED to the program's text (the seventh form; the later family's looks); each row that meets fmt, with fmt's text TOLD by the authors' own Lean function (tested against real Go, not proved from fmt's source: count such statements apart). THE CARD IS WHAT COUNTS. Prove the row's statement (the work); the ties are given (YtalnepcbaegaeaaGreatDoorTie.lean); close each card by the builder's one call (the guide's Derived/Test/ToyasCard.lean, 'card_holds'). Laid BY PROGRAM, IN A SANDBOX (cutbox-door.mjs). By AI agents, Wed Nov 11 2026. No macro, syntax, notation, axiom, sorry.
-/
import Derived.Test.YtalnepcbaegaeaaGreatDoorRows
import GoSem.ClaimSeven
namespace Go.Proofs.YtalnepcbaegaeaaGreatDoor
namespace Rows

/-- THE TIED CARD OF 'ricksteadlaw6.BookOpens'. -/
def bookOpensCard : Claim7 := { stood := { row := bookOpensRow, standIns := [], harness := (true, "4939df9d0e4809ff3a4ea88b380791eeed917912ed7c2b3f7855bddcaac86d89"), looks := true }, kinds := [], alts := [], laidByText := true, laidKinds := [.data, .data, .data, .data, .handle, .sentinel, .sentinel, .pinned], laidTests := true, laidLooks := .later }
def BookOpensCardSaid : Prop := Claim7.holds Tryz.pinned (.plain (OpenSpec.ofChange bookOpensSpec)) bookOpensCard

/-- THE TIED CARD OF 'ricksteadlaw6.BookTurned'. -/
def bookTurnedCard : Claim7 := { stood := { row := bookTurnedRow, standIns := [], harness := (true, "4939df9d0e4809ff3a4ea88b380791eeed917912ed7c2b3f7855bddcaac86d89"), looks := true }, kinds := [], alts := [], laidByText := true, laidKinds := [.data, .data, .data, .data, .handle, .sentinel, .sentinel, .pinned], laidTests := true, laidLooks := .later }
def BookTurnedCardSaid : Prop := Claim7.holds Tryz.pinned (.plain (OpenSpec.ofChange bookTurnedSpec)) bookTurnedCard

/-- THE SECOND FORM's CARD OF 'ricksteadlaw6.BookOpens'. -/
def bookOpensUptoCard : Claim7 := { stood := { row := bookOpensUptoRow, standIns := [], harness := (true, "4939df9d0e4809ff3a4ea88b380791eeed917912ed7c2b3f7855bddcaac86d89"), looks := true }, kinds := [], alts := [], laidByText := true, laidKinds := [.data, .data, .data, .data, .handle, .sentinel, .sentinel, .pinned], laidTests := true, laidLooks := .later }
def BookOpensUptoCardSaid : Prop := Claim7.holds Tryz.pinned (.plain (OpenSpec.upto bookOpensSpec)) bookOpensUptoCard

/-- THE SECOND FORM's CARD OF 'ricksteadlaw6.BookTurned'. -/
def bookTurnedUptoCard : Claim7 := { stood := { row := bookTurnedUptoRow, standIns := [], harness := (true, "4939df9d0e4809ff3a4ea88b380791eeed917912ed7c2b3f7855bddcaac86d89"), looks := true }, kinds := [], alts := [], laidByText := true, laidKinds := [.data, .data, .data, .data, .handle, .sentinel, .sentinel, .pinned], laidTests := true, laidLooks := .later }
def BookTurnedUptoCardSaid : Prop := Claim7.holds Tryz.pinned (.plain (OpenSpec.upto bookTurnedSpec)) bookTurnedUptoCard
end Rows
end Go.Proofs.YtalnepcbaegaeaaGreatDoor
