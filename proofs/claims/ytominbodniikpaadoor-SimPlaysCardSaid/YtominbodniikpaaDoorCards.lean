/-
  DERIVED. GIVEN WITH THE SEED: THE CARDS: each row of YtominbodniikpaaDoorRows.lean that lists a variable, with what it lists TIED to the program's text (the seventh form; the later family's looks); each row that meets fmt, with fmt's text TOLD by the authors' own Lean function (tested against real Go, not proved from fmt's source: count such statements apart). THE CARD IS WHAT COUNTS. Prove the row's statement (the work); the ties are given (YtominbodniikpaaDoorTie.lean); close each card by the builder's one call (the guide's Derived/Test/ToyasCard.lean, 'card_holds'). Laid BY PROGRAM, IN A SANDBOX (cutbox-door.mjs). By AI agents, Wed Nov 11 2026. No macro, syntax, notation, axiom, sorry.
-/
import Derived.Test.YtominbodniikpaaDoorRows
import GoSem.ClaimSeven
namespace Go.Proofs.YtominbodniikpaaDoor
namespace Rows

/-- THE TIED CARD OF 'ricksteadlaw6.SimPlays'. -/
def simPlaysCard : Claim7 := { stood := { row := simPlaysRow, standIns := [], harness := (true, "a0182908968b1667b22e7ec75a3c9f099700408847aef0ec08689ad241d3177c"), looks := true }, kinds := [], alts := [], laidByText := true, laidKinds := [.handle], laidTests := true, laidLooks := .later }
def SimPlaysCardSaid : Prop := Claim7.holds Tryd.pinned (.plain (OpenSpec.ofChange simPlaysSpec)) simPlaysCard

/-- THE SECOND FORM's CARD OF 'ricksteadlaw6.SimPlays'. -/
def simPlaysUptoCard : Claim7 := { stood := { row := simPlaysUptoRow, standIns := [], harness := (true, "a0182908968b1667b22e7ec75a3c9f099700408847aef0ec08689ad241d3177c"), looks := true }, kinds := [], alts := [], laidByText := true, laidKinds := [.handle], laidTests := true, laidLooks := .later }
def SimPlaysUptoCardSaid : Prop := Claim7.holds Tryd.pinned (.plain (OpenSpec.upto simPlaysSpec)) simPlaysUptoCard
end Rows
end Go.Proofs.YtominbodniikpaaDoor
