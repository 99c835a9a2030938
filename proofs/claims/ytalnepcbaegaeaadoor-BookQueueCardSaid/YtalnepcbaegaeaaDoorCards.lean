/-
  DERIVED. GIVEN WITH THE SEED: THE CARDS: each row of YtalnepcbaegaeaaDoorRows.lean that lists a variable, with what it lists TIED to the program's text (the seventh form; the later family's looks); each row that meets fmt, with fmt's text TOLD by the authors' own Lean function (tested against real Go, not proved from fmt's source: count such statements apart). THE CARD IS WHAT COUNTS. Prove the row's statement (the work); the ties are given (YtalnepcbaegaeaaDoorTie.lean); close each card by the builder's one call (the guide's Derived/Test/ToyasCard.lean, 'card_holds'). Laid BY PROGRAM, IN A SANDBOX (cutbox-door.mjs). By AI agents, Wed Nov 11 2026. No macro, syntax, notation, axiom, sorry.
-/
import Derived.Test.YtalnepcbaegaeaaDoorRows
import GoSem.ClaimSeven
namespace Go.Proofs.YtalnepcbaegaeaaDoor
namespace Rows

/-- THE TIED CARD OF 'ricksteadlaw6.BookPlays'. -/
def bookPlaysCard : Claim7 := { stood := { row := bookPlaysRow, standIns := [], harness := (true, "7d26d6a8b9665521ba2dbee6327588d3313a6498d11f69c60fcee757fd60896c"), looks := true }, kinds := [], alts := [], laidByText := true, laidKinds := [.data, .data, .data, .handle], laidTests := true, laidLooks := .later }
def BookPlaysCardSaid : Prop := Claim7.holds Tryd.pinned (.plain (OpenSpec.ofChange bookPlaysSpec)) bookPlaysCard

/-- THE TIED CARD OF 'ricksteadlaw6.BookQueue'. -/
def bookQueueCard : Claim7 := { stood := { row := bookQueueRow, standIns := [], harness := (true, "7d26d6a8b9665521ba2dbee6327588d3313a6498d11f69c60fcee757fd60896c"), looks := true }, kinds := [], alts := [], laidByText := true, laidKinds := [.data, .data, .data], laidTests := true, laidLooks := .later }
def BookQueueCardSaid : Prop := Claim7.holds Tryd.pinned (.plain (OpenSpec.ofChange bookQueueSpec)) bookQueueCard

/-- THE TIED CARD OF 'ricksteadlaw6.BookTorn'. -/
def bookTornCard : Claim7 := { stood := { row := bookTornRow, standIns := [], harness := (true, "7d26d6a8b9665521ba2dbee6327588d3313a6498d11f69c60fcee757fd60896c"), looks := true }, kinds := [], alts := [], laidByText := true, laidKinds := [.data, .data, .data, .data, .sentinel, .sentinel, .pinned], laidTests := true, laidLooks := .later }
def BookTornCardSaid : Prop := Claim7.holds Tryd.pinned (.plain (OpenSpec.ofChange bookTornSpec)) bookTornCard

/-- THE TIED CARD OF 'ricksteadlaw6.BookAgain'. -/
def bookAgainCard : Claim7 := { stood := { row := bookAgainRow, standIns := [], harness := (true, "7d26d6a8b9665521ba2dbee6327588d3313a6498d11f69c60fcee757fd60896c"), looks := true }, kinds := [], alts := [], laidByText := true, laidKinds := [.data, .data, .data, .data, .sentinel, .sentinel, .pinned], laidTests := true, laidLooks := .later }
def BookAgainCardSaid : Prop := Claim7.holds Tryd.pinned (.plain (OpenSpec.ofChange bookAgainSpec)) bookAgainCard

/-- THE SECOND FORM's CARD OF 'ricksteadlaw6.BookPlays'. -/
def bookPlaysUptoCard : Claim7 := { stood := { row := bookPlaysUptoRow, standIns := [], harness := (true, "7d26d6a8b9665521ba2dbee6327588d3313a6498d11f69c60fcee757fd60896c"), looks := true }, kinds := [], alts := [], laidByText := true, laidKinds := [.data, .data, .data, .handle], laidTests := true, laidLooks := .later }
def BookPlaysUptoCardSaid : Prop := Claim7.holds Tryd.pinned (.plain (OpenSpec.upto bookPlaysSpec)) bookPlaysUptoCard

/-- THE SECOND FORM's CARD OF 'ricksteadlaw6.BookQueue'. -/
def bookQueueUptoCard : Claim7 := { stood := { row := bookQueueUptoRow, standIns := [], harness := (true, "7d26d6a8b9665521ba2dbee6327588d3313a6498d11f69c60fcee757fd60896c"), looks := true }, kinds := [], alts := [], laidByText := true, laidKinds := [.data, .data, .data], laidTests := true, laidLooks := .later }
def BookQueueUptoCardSaid : Prop := Claim7.holds Tryd.pinned (.plain (OpenSpec.upto bookQueueSpec)) bookQueueUptoCard

/-- THE SECOND FORM's CARD OF 'ricksteadlaw6.BookTorn'. -/
def bookTornUptoCard : Claim7 := { stood := { row := bookTornUptoRow, standIns := [], harness := (true, "7d26d6a8b9665521ba2dbee6327588d3313a6498d11f69c60fcee757fd60896c"), looks := true }, kinds := [], alts := [], laidByText := true, laidKinds := [.data, .data, .data, .data, .sentinel, .sentinel, .pinned], laidTests := true, laidLooks := .later }
def BookTornUptoCardSaid : Prop := Claim7.holds Tryd.pinned (.plain (OpenSpec.upto bookTornSpec)) bookTornUptoCard

/-- THE SECOND FORM's CARD OF 'ricksteadlaw6.BookAgain'. -/
def bookAgainUptoCard : Claim7 := { stood := { row := bookAgainUptoRow, standIns := [], harness := (true, "7d26d6a8b9665521ba2dbee6327588d3313a6498d11f69c60fcee757fd60896c"), looks := true }, kinds := [], alts := [], laidByText := true, laidKinds := [.data, .data, .data, .data, .sentinel, .sentinel, .pinned], laidTests := true, laidLooks := .later }
def BookAgainUptoCardSaid : Prop := Claim7.holds Tryd.pinned (.plain (OpenSpec.upto bookAgainSpec)) bookAgainUptoCard
end Rows
end Go.Proofs.YtalnepcbaegaeaaDoor
