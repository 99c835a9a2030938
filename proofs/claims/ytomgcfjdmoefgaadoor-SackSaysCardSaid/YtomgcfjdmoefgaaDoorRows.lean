/-
  NARROWER THAN 'FOR EVERY INPUT', by the rows' own cells (each row's printed sentence says how): WrapSays: laid · CoinsSays: laid · WedSays: laid · BinsSays: laid · SackSays: laid · ShareSays: laid.
  DERIVED. THE GIVEN ROWS OF THIS SEAT. 6 by the template 'for every input the law returns true; each argument reads behind the call as it read before'; 0 by the template 'total and deterministic' (their statements: YtomgcfjdmoefgaaDoorTotals.lean).
  GIVEN WITH THE SEED: the statements are not yours to turn. If you find one false, say at which input.
  Laid BY PROGRAM, IN A SANDBOX (cutbox-rows.mjs): the forced cells as the released guide's own fill.sh prints them over the translation e8e46f6338690e5a… (all of the seat's roots in one cut). By AI agents, Wed Nov 11 2026. No macro, syntax, notation, axiom, sorry.
-/
import Derived.Test.YtomgcfjdmoefgaaDoorChecked
import GoSem.Claim
import GoSem.ClaimJoined
import GoSem.ClaimMapViews
import Derived.JoinedTies
import Derived.KernelRfl
namespace Go.Proofs.YtomgcfjdmoefgaaDoor
/- THE CELL 'sum', in the pinned program and in every row, IS THE sha256 OF THE DUMP (.gsa) THAT YtomgcfjdmoefgaaDoorProg.lean LOADS. Nothing in Lean hashes anything: it is a label: what it is worth is what the hold of that sum in a sandbox is worth. -/
noncomputable def Tryd.pinned : Pinned := { name := "ytomgcfjdmoefgaadoor", sum := "e8e46f6338690e5af498917d003cc0484e2fb579a55a0c536bf6415efeccb95d", checked := Tryd.checked }
namespace Rows
def none {H : Type} : Left H := { results := [], args := [] }

/- WHAT THE LISTED PACKAGE-LEVEL VARIABLES READ AS WHEN THE CALL BEGINS. Each datum BY PROGRAM (the guide's laid-datum.mjs) off the statement by which the dump's own 'gosem.cut.vars' lays the variable. In a bare row this is a premise. The card (YtomgcfjdmoefgaaDoorCards.lean) ties it to the program's text. -/
def laid_errors_errorType {H : Type} : DataW H := .iface "internal/reflectlite.rtype" (.agg [.ptr (.lit (.string [101, 114, 114, 111, 114]))])

/-- 'ricksteadlaw5.WrapSays': WHATEVER THE INPUT: true; the input reads as it did. -/
def wrapSaysSpec : ChangeSpec := { name := "wrapSays", fn := fun _ => fun
  | [d1, d2, d3, d4] => { results := [.lit (.bool true)], args := [d1, d2, d3, d4] }
  | _ => none }
def wrapSaysRow : OpenClaim := { program := "ytomgcfjdmoefgaadoor", sum := "e8e46f6338690e5af498917d003cc0484e2fb579a55a0c536bf6415efeccb95d", func := "rickstead/ricksteadlaw5.WrapSays", spec := "wrapSays", inPlace := ["internal/reflectlite.ValueOf", "(internal/reflectlite.Value).Type", "(internal/reflectlite.Value).IsNil", "internal/reflectlite.TypeOf", "(internal/reflectlite.Value).Elem", "(internal/reflectlite.Value).Set"], unfollowed := true, recurses := true, named := ["errors.errorType"], apart := false, laid := [("errors.errorType", laid_errors_errorType)] }
def WrapSaysSaid : Prop := wrapSaysRow.holds Tryd.pinned (OpenSpec.ofChange wrapSaysSpec)

/-- ITS FALSE NEIGHBOUR: 'it returns false'. Refute it at one input. -/
def wrapSaysWrong : ChangeSpec := { name := "wrapSays", fn := fun _ => fun
  | [d1, d2, d3, d4] => { results := [.lit (.bool false)], args := [d1, d2, d3, d4] }
  | _ => none }
def WrapSaysWrongFalsely : Prop := wrapSaysRow.holds Tryd.pinned (OpenSpec.ofChange wrapSaysWrong)

/-- 'ricksteadlaw5.CoinsSays': WHATEVER THE INPUT: true; the input reads as it did. -/
def coinsSaysSpec : ChangeSpec := { name := "coinsSays", fn := fun _ => fun
  | [d1, d2] => { results := [.lit (.bool true)], args := [d1, d2] }
  | _ => none }
def coinsSaysRow : OpenClaim := { program := "ytomgcfjdmoefgaadoor", sum := "e8e46f6338690e5af498917d003cc0484e2fb579a55a0c536bf6415efeccb95d", func := "rickstead/ricksteadlaw5.CoinsSays", spec := "coinsSays", inPlace := ["internal/reflectlite.ValueOf", "(internal/reflectlite.Value).Type", "(internal/reflectlite.Value).IsNil", "internal/reflectlite.TypeOf", "(internal/reflectlite.Value).Elem", "(internal/reflectlite.Value).Set"], unfollowed := true, recurses := true, named := ["errors.errorType"], apart := false, laid := [("errors.errorType", laid_errors_errorType)] }
def CoinsSaysSaid : Prop := coinsSaysRow.holds Tryd.pinned (OpenSpec.ofChange coinsSaysSpec)

/-- ITS FALSE NEIGHBOUR: 'it returns false'. Refute it at one input. -/
def coinsSaysWrong : ChangeSpec := { name := "coinsSays", fn := fun _ => fun
  | [d1, d2] => { results := [.lit (.bool false)], args := [d1, d2] }
  | _ => none }
def CoinsSaysWrongFalsely : Prop := coinsSaysRow.holds Tryd.pinned (OpenSpec.ofChange coinsSaysWrong)

/-- 'ricksteadlaw6.WedSays': WHATEVER THE INPUT: true; the input reads as it did. -/
def wedSaysSpec : ChangeSpec := { name := "wedSays", fn := fun _ => fun
  | [d1, d2, d3] => { results := [.lit (.bool true)], args := [d1, d2, d3] }
  | _ => none }
def wedSaysRow : OpenClaim := { program := "ytomgcfjdmoefgaadoor", sum := "e8e46f6338690e5af498917d003cc0484e2fb579a55a0c536bf6415efeccb95d", func := "rickstead/ricksteadlaw6.WedSays", spec := "wedSays", inPlace := ["internal/reflectlite.ValueOf", "(internal/reflectlite.Value).Type", "(internal/reflectlite.Value).IsNil", "internal/reflectlite.TypeOf", "(internal/reflectlite.Value).Elem", "(internal/reflectlite.Value).Set"], unfollowed := true, recurses := true, named := ["errors.errorType"], apart := false, laid := [("errors.errorType", laid_errors_errorType)] }
def WedSaysSaid : Prop := wedSaysRow.holds Tryd.pinned (OpenSpec.ofChange wedSaysSpec)

/-- ITS FALSE NEIGHBOUR: 'it returns false'. Refute it at one input. -/
def wedSaysWrong : ChangeSpec := { name := "wedSays", fn := fun _ => fun
  | [d1, d2, d3] => { results := [.lit (.bool false)], args := [d1, d2, d3] }
  | _ => none }
def WedSaysWrongFalsely : Prop := wedSaysRow.holds Tryd.pinned (OpenSpec.ofChange wedSaysWrong)

/-- 'ricksteadlaw5.BinsSays': WHATEVER THE INPUT: true; the input reads as it did. -/
def binsSaysSpec : ChangeSpec := { name := "binsSays", fn := fun _ => fun
  | [d1, d2, d3] => { results := [.lit (.bool true)], args := [d1, d2, d3] }
  | _ => none }
def binsSaysRow : OpenClaim := { program := "ytomgcfjdmoefgaadoor", sum := "e8e46f6338690e5af498917d003cc0484e2fb579a55a0c536bf6415efeccb95d", func := "rickstead/ricksteadlaw5.BinsSays", spec := "binsSays", inPlace := ["internal/reflectlite.ValueOf", "(internal/reflectlite.Value).Type", "(internal/reflectlite.Value).IsNil", "internal/reflectlite.TypeOf", "(internal/reflectlite.Value).Elem", "(internal/reflectlite.Value).Set"], unfollowed := true, recurses := true, named := ["errors.errorType"], apart := false, laid := [("errors.errorType", laid_errors_errorType)] }
def BinsSaysSaid : Prop := binsSaysRow.holds Tryd.pinned (OpenSpec.ofChange binsSaysSpec)

/-- ITS FALSE NEIGHBOUR: 'it returns false'. Refute it at one input. -/
def binsSaysWrong : ChangeSpec := { name := "binsSays", fn := fun _ => fun
  | [d1, d2, d3] => { results := [.lit (.bool false)], args := [d1, d2, d3] }
  | _ => none }
def BinsSaysWrongFalsely : Prop := binsSaysRow.holds Tryd.pinned (OpenSpec.ofChange binsSaysWrong)

/-- 'ricksteadlaw6.SackSays': WHATEVER THE INPUT: true; the input reads as it did. -/
def sackSaysSpec : ChangeSpec := { name := "sackSays", fn := fun _ => fun
  | [d1, d2] => { results := [.lit (.bool true)], args := [d1, d2] }
  | _ => none }
def sackSaysRow : OpenClaim := { program := "ytomgcfjdmoefgaadoor", sum := "e8e46f6338690e5af498917d003cc0484e2fb579a55a0c536bf6415efeccb95d", func := "rickstead/ricksteadlaw6.SackSays", spec := "sackSays", inPlace := ["internal/reflectlite.ValueOf", "(internal/reflectlite.Value).Type", "(internal/reflectlite.Value).IsNil", "internal/reflectlite.TypeOf", "(internal/reflectlite.Value).Elem", "(internal/reflectlite.Value).Set"], unfollowed := true, recurses := true, named := ["errors.errorType"], apart := false, laid := [("errors.errorType", laid_errors_errorType)] }
def SackSaysSaid : Prop := sackSaysRow.holds Tryd.pinned (OpenSpec.ofChange sackSaysSpec)

/-- ITS FALSE NEIGHBOUR: 'it returns false'. Refute it at one input. -/
def sackSaysWrong : ChangeSpec := { name := "sackSays", fn := fun _ => fun
  | [d1, d2] => { results := [.lit (.bool false)], args := [d1, d2] }
  | _ => none }
def SackSaysWrongFalsely : Prop := sackSaysRow.holds Tryd.pinned (OpenSpec.ofChange sackSaysWrong)

/-- 'ricksteadlaw5.ShareSays': WHATEVER THE INPUT: true; the input reads as it did. -/
def shareSaysSpec : ChangeSpec := { name := "shareSays", fn := fun _ => fun
  | [d1, d2, d3] => { results := [.lit (.bool true)], args := [d1, d2, d3] }
  | _ => none }
def shareSaysRow : OpenClaim := { program := "ytomgcfjdmoefgaadoor", sum := "e8e46f6338690e5af498917d003cc0484e2fb579a55a0c536bf6415efeccb95d", func := "rickstead/ricksteadlaw5.ShareSays", spec := "shareSays", inPlace := ["internal/reflectlite.ValueOf", "(internal/reflectlite.Value).Type", "(internal/reflectlite.Value).IsNil", "internal/reflectlite.TypeOf", "(internal/reflectlite.Value).Elem", "(internal/reflectlite.Value).Set"], unfollowed := true, recurses := true, named := ["errors.errorType"], apart := false, laid := [("errors.errorType", laid_errors_errorType)] }
def ShareSaysSaid : Prop := shareSaysRow.holds Tryd.pinned (OpenSpec.ofChange shareSaysSpec)

/-- ITS FALSE NEIGHBOUR: 'it returns false'. Refute it at one input. -/
def shareSaysWrong : ChangeSpec := { name := "shareSays", fn := fun _ => fun
  | [d1, d2, d3] => { results := [.lit (.bool false)], args := [d1, d2, d3] }
  | _ => none }
def ShareSaysWrongFalsely : Prop := shareSaysRow.holds Tryd.pinned (OpenSpec.ofChange shareSaysWrong)

/- THE SECOND FORM. 'bulk': how many values and letters a reading holds, each counted each time it is reached (what is shared counts as often as it is met; a slice's spare places count too). A statement '..UptoSaid' is the law's where the arguments, and the package variables that the reading takes, are together of bulk at most 1048576: NARROWER than '..Said'. Prove '..Said' where nothing that the law and all that it calls make is longer than what came in: it says more and counts as full. Else prove '..UptoSaid'. A law counts once. -/
mutual
def uptoBulk {H : Type} : DataW H → Nat
  | .lit (.string bytes) => bytes.length + 1
  | .lit _ => 1
  | .nil => 1
  | .ptr d => uptoBulk d + 1
  | .slice elems spare => uptoBulkAll elems + uptoBulkAll spare + 1
  | .agg parts => uptoBulkAll parts + 1
  | .iface _ d => uptoBulk d + 1
  | .map entries => uptoBulkEntries entries + 1
  | .held _ => 1
def uptoBulkAll {H : Type} : List (DataW H) → Nat
  | [] => 0
  | d :: r => uptoBulk d + uptoBulkAll r
def uptoBulkEntries {H : Type} : List (Lit × DataW H) → Nat
  | [] => 0
  | x :: r => uptoBulkEntry x + uptoBulkEntries r
def uptoBulkEntry {H : Type} : Lit × DataW H → Nat
  | (.string bytes, d) => bytes.length + uptoBulk d + 1
  | (_, d) => uptoBulk d + 1
 end
def uptoSmall : (H : Type) → List (DataW H) → Bool := fun _ ds => decide (uptoBulkAll ds ≤ 1048576)
def OpenSpec.upto (s : _root_.Go.ChangeSpec) : _root_.Go.OpenSpec := { _root_.Go.OpenSpec.ofChange s with cond := some uptoSmall }

/-- 'ricksteadlaw5.WrapSays', WHERE WHAT IT READS IS OF BULK AT MOST 1048576: true; the input reads as it did. -/
def wrapSaysUptoRow : OpenClaim := { program := "ytomgcfjdmoefgaadoor", sum := "e8e46f6338690e5af498917d003cc0484e2fb579a55a0c536bf6415efeccb95d", func := "rickstead/ricksteadlaw5.WrapSays", spec := "wrapSays", inPlace := ["internal/reflectlite.ValueOf", "(internal/reflectlite.Value).Type", "(internal/reflectlite.Value).IsNil", "internal/reflectlite.TypeOf", "(internal/reflectlite.Value).Elem", "(internal/reflectlite.Value).Set"], unfollowed := true, recurses := true, named := ["errors.errorType"], apart := false, laid := [("errors.errorType", laid_errors_errorType)], narrowed := true }
def WrapSaysUptoSaid : Prop := wrapSaysUptoRow.holds Tryd.pinned (OpenSpec.upto wrapSaysSpec)

/-- 'ricksteadlaw5.CoinsSays', WHERE WHAT IT READS IS OF BULK AT MOST 1048576: true; the input reads as it did. -/
def coinsSaysUptoRow : OpenClaim := { program := "ytomgcfjdmoefgaadoor", sum := "e8e46f6338690e5af498917d003cc0484e2fb579a55a0c536bf6415efeccb95d", func := "rickstead/ricksteadlaw5.CoinsSays", spec := "coinsSays", inPlace := ["internal/reflectlite.ValueOf", "(internal/reflectlite.Value).Type", "(internal/reflectlite.Value).IsNil", "internal/reflectlite.TypeOf", "(internal/reflectlite.Value).Elem", "(internal/reflectlite.Value).Set"], unfollowed := true, recurses := true, named := ["errors.errorType"], apart := false, laid := [("errors.errorType", laid_errors_errorType)], narrowed := true }
def CoinsSaysUptoSaid : Prop := coinsSaysUptoRow.holds Tryd.pinned (OpenSpec.upto coinsSaysSpec)

/-- 'ricksteadlaw6.WedSays', WHERE WHAT IT READS IS OF BULK AT MOST 1048576: true; the input reads as it did. -/
def wedSaysUptoRow : OpenClaim := { program := "ytomgcfjdmoefgaadoor", sum := "e8e46f6338690e5af498917d003cc0484e2fb579a55a0c536bf6415efeccb95d", func := "rickstead/ricksteadlaw6.WedSays", spec := "wedSays", inPlace := ["internal/reflectlite.ValueOf", "(internal/reflectlite.Value).Type", "(internal/reflectlite.Value).IsNil", "internal/reflectlite.TypeOf", "(internal/reflectlite.Value).Elem", "(internal/reflectlite.Value).Set"], unfollowed := true, recurses := true, named := ["errors.errorType"], apart := false, laid := [("errors.errorType", laid_errors_errorType)], narrowed := true }
def WedSaysUptoSaid : Prop := wedSaysUptoRow.holds Tryd.pinned (OpenSpec.upto wedSaysSpec)

/-- 'ricksteadlaw5.BinsSays', WHERE WHAT IT READS IS OF BULK AT MOST 1048576: true; the input reads as it did. -/
def binsSaysUptoRow : OpenClaim := { program := "ytomgcfjdmoefgaadoor", sum := "e8e46f6338690e5af498917d003cc0484e2fb579a55a0c536bf6415efeccb95d", func := "rickstead/ricksteadlaw5.BinsSays", spec := "binsSays", inPlace := ["internal/reflectlite.ValueOf", "(internal/reflectlite.Value).Type", "(internal/reflectlite.Value).IsNil", "internal/reflectlite.TypeOf", "(internal/reflectlite.Value).Elem", "(internal/reflectlite.Value).Set"], unfollowed := true, recurses := true, named := ["errors.errorType"], apart := false, laid := [("errors.errorType", laid_errors_errorType)], narrowed := true }
def BinsSaysUptoSaid : Prop := binsSaysUptoRow.holds Tryd.pinned (OpenSpec.upto binsSaysSpec)

/-- 'ricksteadlaw6.SackSays', WHERE WHAT IT READS IS OF BULK AT MOST 1048576: true; the input reads as it did. -/
def sackSaysUptoRow : OpenClaim := { program := "ytomgcfjdmoefgaadoor", sum := "e8e46f6338690e5af498917d003cc0484e2fb579a55a0c536bf6415efeccb95d", func := "rickstead/ricksteadlaw6.SackSays", spec := "sackSays", inPlace := ["internal/reflectlite.ValueOf", "(internal/reflectlite.Value).Type", "(internal/reflectlite.Value).IsNil", "internal/reflectlite.TypeOf", "(internal/reflectlite.Value).Elem", "(internal/reflectlite.Value).Set"], unfollowed := true, recurses := true, named := ["errors.errorType"], apart := false, laid := [("errors.errorType", laid_errors_errorType)], narrowed := true }
def SackSaysUptoSaid : Prop := sackSaysUptoRow.holds Tryd.pinned (OpenSpec.upto sackSaysSpec)

/-- 'ricksteadlaw5.ShareSays', WHERE WHAT IT READS IS OF BULK AT MOST 1048576: true; the input reads as it did. -/
def shareSaysUptoRow : OpenClaim := { program := "ytomgcfjdmoefgaadoor", sum := "e8e46f6338690e5af498917d003cc0484e2fb579a55a0c536bf6415efeccb95d", func := "rickstead/ricksteadlaw5.ShareSays", spec := "shareSays", inPlace := ["internal/reflectlite.ValueOf", "(internal/reflectlite.Value).Type", "(internal/reflectlite.Value).IsNil", "internal/reflectlite.TypeOf", "(internal/reflectlite.Value).Elem", "(internal/reflectlite.Value).Set"], unfollowed := true, recurses := true, named := ["errors.errorType"], apart := false, laid := [("errors.errorType", laid_errors_errorType)], narrowed := true }
def ShareSaysUptoSaid : Prop := shareSaysUptoRow.holds Tryd.pinned (OpenSpec.upto shareSaysSpec)

end Rows
end Go.Proofs.YtomgcfjdmoefgaaDoor
