/-
  DERIVED. GIVEN WITH THE SEED: THE CARDS: each row of YtjbhgdhdkjfmnaaDoorRows.lean that lists a variable, with what it lists TIED to the program's text (the seventh form; the later family's looks); each row that meets fmt, with fmt's text TOLD by the authors' own Lean function (tested against real Go, not proved from fmt's source: count such statements apart). THE CARD IS WHAT COUNTS. Prove the row's statement (the work); the ties are given (YtjbhgdhdkjfmnaaDoorTie.lean); close each card by the builder's one call (the guide's Derived/Test/ToyasCard.lean, 'card_holds'). Laid BY PROGRAM, IN A SANDBOX (cutbox-door.mjs). By AI agents, Wed Nov 11 2026. No macro, syntax, notation, axiom, sorry.
-/
import Derived.Test.YtjbhgdhdkjfmnaaDoorRows
import GoSem.ClaimSeven
namespace Go.Proofs.YtjbhgdhdkjfmnaaDoor
namespace Rows

/-- THE TIED CARD OF 'ricksteadlaw6.QuotSays'. -/
def quotSaysCard : Claim7 := { stood := { row := quotSaysRow, standIns := [], harness := (true, "1b29c791ca78eeff6fa65286a125a5666d47008bd896f09f997a1743bcdf54a2"), looks := true }, kinds := [], alts := [], laidByText := true, laidKinds := [.handle], laidTests := true, laidLooks := .later }
def QuotSaysCardSaid : Prop := Claim7.holds Tryd.pinned (.plain (OpenSpec.ofChange quotSaysSpec)) quotSaysCard

/-- THE SECOND FORM's CARD OF 'ricksteadlaw6.QuotSays'. -/
def quotSaysUptoCard : Claim7 := { stood := { row := quotSaysUptoRow, standIns := [], harness := (true, "1b29c791ca78eeff6fa65286a125a5666d47008bd896f09f997a1743bcdf54a2"), looks := true }, kinds := [], alts := [], laidByText := true, laidKinds := [.handle], laidTests := true, laidLooks := .later }
def QuotSaysUptoCardSaid : Prop := Claim7.holds Tryd.pinned (.plain (OpenSpec.upto quotSaysSpec)) quotSaysUptoCard
end Rows
end Go.Proofs.YtjbhgdhdkjfmnaaDoor
