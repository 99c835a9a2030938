/-
  DERIVED. GIVEN WITH THE SEED: THE CARDS: each row of YtmlnegcffeghcaaDoorRows.lean that lists a variable, with what it lists TIED to the program's text (the seventh form; the later family's looks); each row that meets fmt, with fmt's text TOLD by the authors' own Lean function (tested against real Go, not proved from fmt's source: count such statements apart). THE CARD IS WHAT COUNTS. Prove the row's statement (the work); the ties are given (YtmlnegcffeghcaaDoorTie.lean); close each card by the builder's one call (the guide's Derived/Test/ToyasCard.lean, 'card_holds'). Laid BY PROGRAM, IN A SANDBOX (cutbox-door.mjs). By AI agents, Wed Nov 11 2026. No macro, syntax, notation, axiom, sorry.
-/
import Derived.Test.YtmlnegcffeghcaaDoorRows
import GoSem.ClaimSeven
namespace Go.Proofs.YtmlnegcffeghcaaDoor
namespace Rows

/-- THE TIED CARD OF 'ricksteadlaw5.PageSays'. -/
def pageSaysCard : Claim7 := { stood := { row := pageSaysRow, standIns := [], harness := (true, "a64384eb4e2d5791ee1bb482a39f5da29ab0a470df29b4986e6c1bbe5a60251f"), looks := true }, kinds := [], alts := [], laidByText := true, laidKinds := [.handle], laidTests := true, laidLooks := .later }
def PageSaysCardSaid : Prop := Claim7.holds Tryd.pinned (.plain (OpenSpec.ofChange pageSaysSpec)) pageSaysCard

/-- THE SECOND FORM's CARD OF 'ricksteadlaw5.PageSays'. -/
def pageSaysUptoCard : Claim7 := { stood := { row := pageSaysUptoRow, standIns := [], harness := (true, "a64384eb4e2d5791ee1bb482a39f5da29ab0a470df29b4986e6c1bbe5a60251f"), looks := true }, kinds := [], alts := [], laidByText := true, laidKinds := [.handle], laidTests := true, laidLooks := .later }
def PageSaysUptoCardSaid : Prop := Claim7.holds Tryd.pinned (.plain (OpenSpec.upto pageSaysSpec)) pageSaysUptoCard
end Rows
end Go.Proofs.YtmlnegcffeghcaaDoor
