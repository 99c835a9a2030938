/-
  DERIVED. GIVEN WITH THE SEED: THE CARDS: each row of YtfejlkgddnamoaaGreatDoorRows.lean that lists a variable, with what it lists TIED to the program's text (the seventh form; the later family's looks); each row that meets fmt, with fmt's text TOLD by the authors' own Lean function (tested against real Go, not proved from fmt's source: count such statements apart). THE CARD IS WHAT COUNTS. Prove the row's statement (the work); the ties are given (YtfejlkgddnamoaaGreatDoorTie.lean); close each card by the builder's one call (the guide's Derived/Test/ToyasCard.lean, 'card_holds'). Laid BY PROGRAM, IN A SANDBOX (cutbox-door.mjs). By AI agents, Wed Nov 11 2026. No macro, syntax, notation, axiom, sorry.
-/
import Derived.Test.YtfejlkgddnamoaaGreatDoorRows
import GoSem.ClaimSeven
namespace Go.Proofs.YtfejlkgddnamoaaGreatDoor
namespace Rows

/-- THE TIED CARD OF 'ricksteadtop.TopBook'. -/
def topBookCard : Claim7 := { stood := { row := topBookRow, standIns := [], harness := (true, "819650d7e9a338c5204077ca2b603082735a4e40d3b930513ffdfe8ae003964b"), looks := true }, kinds := [], alts := [], laidByText := true, laidKinds := [.data, .data, .data, .data, .handle, .sentinel, .sentinel, .pinned], laidTests := true, laidLooks := .later }
def TopBookCardSaid : Prop := Claim7.holds Tryz.pinned (.plain (OpenSpec.ofChange topBookSpec)) topBookCard

/-- THE TIED CARD OF 'ricksteadlaw6.DeskAnswers'. -/
def deskAnswersCard : Claim7 := { stood := { row := deskAnswersRow, standIns := [], harness := (true, "819650d7e9a338c5204077ca2b603082735a4e40d3b930513ffdfe8ae003964b"), looks := true }, kinds := [], alts := [], laidByText := true, laidKinds := [.data, .data, .data, .data, .handle, .sentinel, .sentinel, .sentinel, .pinned], laidTests := true, laidLooks := .later }
def DeskAnswersCardSaid : Prop := Claim7.holds Tryz.pinned (.plain (OpenSpec.ofChange deskAnswersSpec)) deskAnswersCard

/-- THE TIED CARD OF 'ricksteadlaw6.DeskBegins'. -/
def deskBeginsCard : Claim7 := { stood := { row := deskBeginsRow, standIns := [], harness := (true, "819650d7e9a338c5204077ca2b603082735a4e40d3b930513ffdfe8ae003964b"), looks := true }, kinds := [], alts := [], laidByText := true, laidKinds := [.data, .data, .data, .data, .handle, .sentinel, .sentinel, .sentinel, .pinned], laidTests := true, laidLooks := .later }
def DeskBeginsCardSaid : Prop := Claim7.holds Tryz.pinned (.plain (OpenSpec.ofChange deskBeginsSpec)) deskBeginsCard

/-- THE TIED CARD OF 'ricksteadlaw6.DeskLines'. -/
def deskLinesCard : Claim7 := { stood := { row := deskLinesRow, standIns := [], harness := (true, "819650d7e9a338c5204077ca2b603082735a4e40d3b930513ffdfe8ae003964b"), looks := true }, kinds := [], alts := [], laidByText := true, laidKinds := [.data, .data, .data, .data, .handle, .sentinel, .sentinel, .sentinel, .pinned], laidTests := true, laidLooks := .later }
def DeskLinesCardSaid : Prop := Claim7.holds Tryz.pinned (.plain (OpenSpec.ofChange deskLinesSpec)) deskLinesCard

/-- THE SECOND FORM's CARD OF 'ricksteadtop.TopBook'. -/
def topBookUptoCard : Claim7 := { stood := { row := topBookUptoRow, standIns := [], harness := (true, "819650d7e9a338c5204077ca2b603082735a4e40d3b930513ffdfe8ae003964b"), looks := true }, kinds := [], alts := [], laidByText := true, laidKinds := [.data, .data, .data, .data, .handle, .sentinel, .sentinel, .pinned], laidTests := true, laidLooks := .later }
def TopBookUptoCardSaid : Prop := Claim7.holds Tryz.pinned (.plain (OpenSpec.upto topBookSpec)) topBookUptoCard

/-- THE SECOND FORM's CARD OF 'ricksteadlaw6.DeskAnswers'. -/
def deskAnswersUptoCard : Claim7 := { stood := { row := deskAnswersUptoRow, standIns := [], harness := (true, "819650d7e9a338c5204077ca2b603082735a4e40d3b930513ffdfe8ae003964b"), looks := true }, kinds := [], alts := [], laidByText := true, laidKinds := [.data, .data, .data, .data, .handle, .sentinel, .sentinel, .sentinel, .pinned], laidTests := true, laidLooks := .later }
def DeskAnswersUptoCardSaid : Prop := Claim7.holds Tryz.pinned (.plain (OpenSpec.upto deskAnswersSpec)) deskAnswersUptoCard

/-- THE SECOND FORM's CARD OF 'ricksteadlaw6.DeskBegins'. -/
def deskBeginsUptoCard : Claim7 := { stood := { row := deskBeginsUptoRow, standIns := [], harness := (true, "819650d7e9a338c5204077ca2b603082735a4e40d3b930513ffdfe8ae003964b"), looks := true }, kinds := [], alts := [], laidByText := true, laidKinds := [.data, .data, .data, .data, .handle, .sentinel, .sentinel, .sentinel, .pinned], laidTests := true, laidLooks := .later }
def DeskBeginsUptoCardSaid : Prop := Claim7.holds Tryz.pinned (.plain (OpenSpec.upto deskBeginsSpec)) deskBeginsUptoCard

/-- THE SECOND FORM's CARD OF 'ricksteadlaw6.DeskLines'. -/
def deskLinesUptoCard : Claim7 := { stood := { row := deskLinesUptoRow, standIns := [], harness := (true, "819650d7e9a338c5204077ca2b603082735a4e40d3b930513ffdfe8ae003964b"), looks := true }, kinds := [], alts := [], laidByText := true, laidKinds := [.data, .data, .data, .data, .handle, .sentinel, .sentinel, .sentinel, .pinned], laidTests := true, laidLooks := .later }
def DeskLinesUptoCardSaid : Prop := Claim7.holds Tryz.pinned (.plain (OpenSpec.upto deskLinesSpec)) deskLinesUptoCard
end Rows
end Go.Proofs.YtfejlkgddnamoaaGreatDoor
