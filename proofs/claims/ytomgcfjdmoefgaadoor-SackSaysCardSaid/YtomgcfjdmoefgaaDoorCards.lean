/-
  DERIVED. GIVEN WITH THE SEED: THE CARDS: each row of YtomgcfjdmoefgaaDoorRows.lean that lists a variable, with what it lists TIED to the program's text (the seventh form; the later family's looks); each row that meets fmt, with fmt's text TOLD by the authors' own Lean function (tested against real Go, not proved from fmt's source: count such statements apart). THE CARD IS WHAT COUNTS. Prove the row's statement (the work); the ties are given (YtomgcfjdmoefgaaDoorTie.lean); close each card by the builder's one call (the guide's Derived/Test/ToyasCard.lean, 'card_holds'). Laid BY PROGRAM, IN A SANDBOX (cutbox-door.mjs). By AI agents, Wed Nov 11 2026. No macro, syntax, notation, axiom, sorry.
-/
import Derived.Test.YtomgcfjdmoefgaaDoorRows
import GoSem.ClaimSeven
namespace Go.Proofs.YtomgcfjdmoefgaaDoor
namespace Rows

/-- THE TIED CARD OF 'ricksteadlaw5.WrapSays'. -/
def wrapSaysCard : Claim7 := { stood := { row := wrapSaysRow, standIns := [], harness := (true, "b66e4f418f5489eece209e35e5ac5a25112f2945812879e9c9b8927053f661b7"), looks := true }, kinds := [], alts := [], laidByText := true, laidKinds := [.handle], laidTests := true, laidLooks := .later }
def WrapSaysCardSaid : Prop := Claim7.holds Tryd.pinned (.plain (OpenSpec.ofChange wrapSaysSpec)) wrapSaysCard

/-- THE TIED CARD OF 'ricksteadlaw5.CoinsSays'. -/
def coinsSaysCard : Claim7 := { stood := { row := coinsSaysRow, standIns := [], harness := (true, "b66e4f418f5489eece209e35e5ac5a25112f2945812879e9c9b8927053f661b7"), looks := true }, kinds := [], alts := [], laidByText := true, laidKinds := [.handle], laidTests := true, laidLooks := .later }
def CoinsSaysCardSaid : Prop := Claim7.holds Tryd.pinned (.plain (OpenSpec.ofChange coinsSaysSpec)) coinsSaysCard

/-- THE TIED CARD OF 'ricksteadlaw6.WedSays'. -/
def wedSaysCard : Claim7 := { stood := { row := wedSaysRow, standIns := [], harness := (true, "b66e4f418f5489eece209e35e5ac5a25112f2945812879e9c9b8927053f661b7"), looks := true }, kinds := [], alts := [], laidByText := true, laidKinds := [.handle], laidTests := true, laidLooks := .later }
def WedSaysCardSaid : Prop := Claim7.holds Tryd.pinned (.plain (OpenSpec.ofChange wedSaysSpec)) wedSaysCard

/-- THE TIED CARD OF 'ricksteadlaw5.BinsSays'. -/
def binsSaysCard : Claim7 := { stood := { row := binsSaysRow, standIns := [], harness := (true, "b66e4f418f5489eece209e35e5ac5a25112f2945812879e9c9b8927053f661b7"), looks := true }, kinds := [], alts := [], laidByText := true, laidKinds := [.handle], laidTests := true, laidLooks := .later }
def BinsSaysCardSaid : Prop := Claim7.holds Tryd.pinned (.plain (OpenSpec.ofChange binsSaysSpec)) binsSaysCard

/-- THE TIED CARD OF 'ricksteadlaw6.SackSays'. -/
def sackSaysCard : Claim7 := { stood := { row := sackSaysRow, standIns := [], harness := (true, "b66e4f418f5489eece209e35e5ac5a25112f2945812879e9c9b8927053f661b7"), looks := true }, kinds := [], alts := [], laidByText := true, laidKinds := [.handle], laidTests := true, laidLooks := .later }
def SackSaysCardSaid : Prop := Claim7.holds Tryd.pinned (.plain (OpenSpec.ofChange sackSaysSpec)) sackSaysCard

/-- THE TIED CARD OF 'ricksteadlaw5.ShareSays'. -/
def shareSaysCard : Claim7 := { stood := { row := shareSaysRow, standIns := [], harness := (true, "b66e4f418f5489eece209e35e5ac5a25112f2945812879e9c9b8927053f661b7"), looks := true }, kinds := [], alts := [], laidByText := true, laidKinds := [.handle], laidTests := true, laidLooks := .later }
def ShareSaysCardSaid : Prop := Claim7.holds Tryd.pinned (.plain (OpenSpec.ofChange shareSaysSpec)) shareSaysCard

/-- THE SECOND FORM's CARD OF 'ricksteadlaw5.WrapSays'. -/
def wrapSaysUptoCard : Claim7 := { stood := { row := wrapSaysUptoRow, standIns := [], harness := (true, "b66e4f418f5489eece209e35e5ac5a25112f2945812879e9c9b8927053f661b7"), looks := true }, kinds := [], alts := [], laidByText := true, laidKinds := [.handle], laidTests := true, laidLooks := .later }
def WrapSaysUptoCardSaid : Prop := Claim7.holds Tryd.pinned (.plain (OpenSpec.upto wrapSaysSpec)) wrapSaysUptoCard

/-- THE SECOND FORM's CARD OF 'ricksteadlaw5.CoinsSays'. -/
def coinsSaysUptoCard : Claim7 := { stood := { row := coinsSaysUptoRow, standIns := [], harness := (true, "b66e4f418f5489eece209e35e5ac5a25112f2945812879e9c9b8927053f661b7"), looks := true }, kinds := [], alts := [], laidByText := true, laidKinds := [.handle], laidTests := true, laidLooks := .later }
def CoinsSaysUptoCardSaid : Prop := Claim7.holds Tryd.pinned (.plain (OpenSpec.upto coinsSaysSpec)) coinsSaysUptoCard

/-- THE SECOND FORM's CARD OF 'ricksteadlaw6.WedSays'. -/
def wedSaysUptoCard : Claim7 := { stood := { row := wedSaysUptoRow, standIns := [], harness := (true, "b66e4f418f5489eece209e35e5ac5a25112f2945812879e9c9b8927053f661b7"), looks := true }, kinds := [], alts := [], laidByText := true, laidKinds := [.handle], laidTests := true, laidLooks := .later }
def WedSaysUptoCardSaid : Prop := Claim7.holds Tryd.pinned (.plain (OpenSpec.upto wedSaysSpec)) wedSaysUptoCard

/-- THE SECOND FORM's CARD OF 'ricksteadlaw5.BinsSays'. -/
def binsSaysUptoCard : Claim7 := { stood := { row := binsSaysUptoRow, standIns := [], harness := (true, "b66e4f418f5489eece209e35e5ac5a25112f2945812879e9c9b8927053f661b7"), looks := true }, kinds := [], alts := [], laidByText := true, laidKinds := [.handle], laidTests := true, laidLooks := .later }
def BinsSaysUptoCardSaid : Prop := Claim7.holds Tryd.pinned (.plain (OpenSpec.upto binsSaysSpec)) binsSaysUptoCard

/-- THE SECOND FORM's CARD OF 'ricksteadlaw6.SackSays'. -/
def sackSaysUptoCard : Claim7 := { stood := { row := sackSaysUptoRow, standIns := [], harness := (true, "b66e4f418f5489eece209e35e5ac5a25112f2945812879e9c9b8927053f661b7"), looks := true }, kinds := [], alts := [], laidByText := true, laidKinds := [.handle], laidTests := true, laidLooks := .later }
def SackSaysUptoCardSaid : Prop := Claim7.holds Tryd.pinned (.plain (OpenSpec.upto sackSaysSpec)) sackSaysUptoCard

/-- THE SECOND FORM's CARD OF 'ricksteadlaw5.ShareSays'. -/
def shareSaysUptoCard : Claim7 := { stood := { row := shareSaysUptoRow, standIns := [], harness := (true, "b66e4f418f5489eece209e35e5ac5a25112f2945812879e9c9b8927053f661b7"), looks := true }, kinds := [], alts := [], laidByText := true, laidKinds := [.handle], laidTests := true, laidLooks := .later }
def ShareSaysUptoCardSaid : Prop := Claim7.holds Tryd.pinned (.plain (OpenSpec.upto shareSaysSpec)) shareSaysUptoCard
end Rows
end Go.Proofs.YtomgcfjdmoefgaaDoor
