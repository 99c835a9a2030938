/-
  No cell of these rows narrows 'for every input' (looked for: loops, veiled, ifaces, maps, wideKeys, modest, calm, conditions, laid).
  DERIVED. THE GIVEN ROWS OF THIS SEAT. 8 by the template 'for every input the law returns true; each argument reads behind the call as it read before'; 0 by the template 'total and deterministic' (their statements: YteidoknpnfbonaaTotals.lean).
  GIVEN WITH THE SEED: the statements are not yours to turn. If you find one false, say at which input.
  Laid BY PROGRAM, IN A SANDBOX (cutbox-rows.mjs): the forced cells as the released guide's own fill.sh prints them over the translation c0c04252f1b4d631… (all of the seat's roots in one cut). By AI agents, Wed Nov 11 2026. No macro, syntax, notation, axiom, sorry.
-/
import Derived.Test.YteidoknpnfbonaaChecked
import GoSem.Claim
import GoSem.ClaimJoined
import GoSem.ClaimMapViews
import Derived.JoinedTies
import Derived.KernelRfl
namespace Go.Proofs.Yteidoknpnfbonaa
/- THE CELL 'sum', in the pinned program and in every row, IS THE sha256 OF THE DUMP (.gsa) THAT YteidoknpnfbonaaProg.lean LOADS. Nothing in Lean hashes anything: it is a label: what it is worth is what the hold of that sum in a sandbox is worth. -/
noncomputable def Try.pinned : Pinned := { name := "yteidoknpnfbonaa", sum := "c0c04252f1b4d631fee050c88094d90121a8c225fce3fccce7397c3912e52b7c", checked := Try.checked }
namespace Rows
def none {H : Type} : Left H := { results := [], args := [] }

/-- 'ricksteadlaw5.WrapLeast': WHATEVER THE INPUT: true; the input reads as it did. -/
def wrapLeastSpec : ChangeSpec := { name := "wrapLeast", fn := fun _ => fun
  | [d1, d2, d3, d4] => { results := [.lit (.bool true)], args := [d1, d2, d3, d4] }
  | _ => none }
def wrapLeastRow : OpenClaim := { program := "yteidoknpnfbonaa", sum := "c0c04252f1b4d631fee050c88094d90121a8c225fce3fccce7397c3912e52b7c", func := "rickstead/ricksteadlaw5.WrapLeast", spec := "wrapLeast", apart := false }
def WrapLeastSaid : Prop := wrapLeastRow.holds Try.pinned (OpenSpec.ofChange wrapLeastSpec)

/-- ITS FALSE NEIGHBOUR: 'it returns false'. Refute it at one input. -/
def wrapLeastWrong : ChangeSpec := { name := "wrapLeast", fn := fun _ => fun
  | [d1, d2, d3, d4] => { results := [.lit (.bool false)], args := [d1, d2, d3, d4] }
  | _ => none }
def WrapLeastWrongFalsely : Prop := wrapLeastRow.holds Try.pinned (OpenSpec.ofChange wrapLeastWrong)

/-- 'ricksteadlaw5.WrapFits': WHATEVER THE INPUT: true; the input reads as it did. -/
def wrapFitsSpec : ChangeSpec := { name := "wrapFits", fn := fun _ => fun
  | [d1, d2] => { results := [.lit (.bool true)], args := [d1, d2] }
  | _ => none }
def wrapFitsRow : OpenClaim := { program := "yteidoknpnfbonaa", sum := "c0c04252f1b4d631fee050c88094d90121a8c225fce3fccce7397c3912e52b7c", func := "rickstead/ricksteadlaw5.WrapFits", spec := "wrapFits", apart := false }
def WrapFitsSaid : Prop := wrapFitsRow.holds Try.pinned (OpenSpec.ofChange wrapFitsSpec)

/-- ITS FALSE NEIGHBOUR: 'it returns false'. Refute it at one input. -/
def wrapFitsWrong : ChangeSpec := { name := "wrapFits", fn := fun _ => fun
  | [d1, d2] => { results := [.lit (.bool false)], args := [d1, d2] }
  | _ => none }
def WrapFitsWrongFalsely : Prop := wrapFitsRow.holds Try.pinned (OpenSpec.ofChange wrapFitsWrong)

/-- 'ricksteadlaw5.WrapLater': WHATEVER THE INPUT: true; the input reads as it did. -/
def wrapLaterSpec : ChangeSpec := { name := "wrapLater", fn := fun _ => fun
  | [d1, d2, d3, d4] => { results := [.lit (.bool true)], args := [d1, d2, d3, d4] }
  | _ => none }
def wrapLaterRow : OpenClaim := { program := "yteidoknpnfbonaa", sum := "c0c04252f1b4d631fee050c88094d90121a8c225fce3fccce7397c3912e52b7c", func := "rickstead/ricksteadlaw5.WrapLater", spec := "wrapLater", apart := false }
def WrapLaterSaid : Prop := wrapLaterRow.holds Try.pinned (OpenSpec.ofChange wrapLaterSpec)

/-- ITS FALSE NEIGHBOUR: 'it returns false'. Refute it at one input. -/
def wrapLaterWrong : ChangeSpec := { name := "wrapLater", fn := fun _ => fun
  | [d1, d2, d3, d4] => { results := [.lit (.bool false)], args := [d1, d2, d3, d4] }
  | _ => none }
def WrapLaterWrongFalsely : Prop := wrapLaterRow.holds Try.pinned (OpenSpec.ofChange wrapLaterWrong)

/-- 'ricksteadlaw5.ShareGraham': WHATEVER THE INPUT: true; the input reads as it did. -/
def shareGrahamSpec : ChangeSpec := { name := "shareGraham", fn := fun _ => fun
  | [d1, d2, d3] => { results := [.lit (.bool true)], args := [d1, d2, d3] }
  | _ => none }
def shareGrahamRow : OpenClaim := { program := "yteidoknpnfbonaa", sum := "c0c04252f1b4d631fee050c88094d90121a8c225fce3fccce7397c3912e52b7c", func := "rickstead/ricksteadlaw5.ShareGraham", spec := "shareGraham", apart := false }
def ShareGrahamSaid : Prop := shareGrahamRow.holds Try.pinned (OpenSpec.ofChange shareGrahamSpec)

/-- ITS FALSE NEIGHBOUR: 'it returns false'. Refute it at one input. -/
def shareGrahamWrong : ChangeSpec := { name := "shareGraham", fn := fun _ => fun
  | [d1, d2, d3] => { results := [.lit (.bool false)], args := [d1, d2, d3] }
  | _ => none }
def ShareGrahamWrongFalsely : Prop := shareGrahamRow.holds Try.pinned (OpenSpec.ofChange shareGrahamWrong)

/-- 'ricksteadlaw5.ShareOne': WHATEVER THE INPUT: true; the input reads as it did. -/
def shareOneSpec : ChangeSpec := { name := "shareOne", fn := fun _ => fun
  | [d] => { results := [.lit (.bool true)], args := [d] }
  | _ => none }
def shareOneRow : OpenClaim := { program := "yteidoknpnfbonaa", sum := "c0c04252f1b4d631fee050c88094d90121a8c225fce3fccce7397c3912e52b7c", func := "rickstead/ricksteadlaw5.ShareOne", spec := "shareOne", apart := false }
def ShareOneSaid : Prop := shareOneRow.holds Try.pinned (OpenSpec.ofChange shareOneSpec)

/-- ITS FALSE NEIGHBOUR: 'it returns false'. Refute it at one input. -/
def shareOneWrong : ChangeSpec := { name := "shareOne", fn := fun _ => fun
  | [d] => { results := [.lit (.bool false)], args := [d] }
  | _ => none }
def ShareOneWrongFalsely : Prop := shareOneRow.holds Try.pinned (OpenSpec.ofChange shareOneWrong)

/-- 'ricksteadtop.TopMachines': WHATEVER THE INPUT: true; the input reads as it did. -/
def topMachinesSpec : ChangeSpec := { name := "topMachines", fn := fun _ => fun
  | [d1, d2] => { results := [.lit (.bool true)], args := [d1, d2] }
  | _ => none }
def topMachinesRow : OpenClaim := { program := "yteidoknpnfbonaa", sum := "c0c04252f1b4d631fee050c88094d90121a8c225fce3fccce7397c3912e52b7c", func := "rickstead/ricksteadtop.TopMachines", spec := "topMachines", unfollowed := true, recurses := true, apart := false }
def TopMachinesSaid : Prop := topMachinesRow.holds Try.pinned (OpenSpec.ofChange topMachinesSpec)

/-- ITS FALSE NEIGHBOUR: 'it returns false'. Refute it at one input. -/
def topMachinesWrong : ChangeSpec := { name := "topMachines", fn := fun _ => fun
  | [d1, d2] => { results := [.lit (.bool false)], args := [d1, d2] }
  | _ => none }
def TopMachinesWrongFalsely : Prop := topMachinesRow.holds Try.pinned (OpenSpec.ofChange topMachinesWrong)

/-- 'ricksteadlaw5.ShareBounds': WHATEVER THE INPUT: true; the input reads as it did. -/
def shareBoundsSpec : ChangeSpec := { name := "shareBounds", fn := fun _ => fun
  | [d1, d2, d3] => { results := [.lit (.bool true)], args := [d1, d2, d3] }
  | _ => none }
def shareBoundsRow : OpenClaim := { program := "yteidoknpnfbonaa", sum := "c0c04252f1b4d631fee050c88094d90121a8c225fce3fccce7397c3912e52b7c", func := "rickstead/ricksteadlaw5.ShareBounds", spec := "shareBounds", apart := false }
def ShareBoundsSaid : Prop := shareBoundsRow.holds Try.pinned (OpenSpec.ofChange shareBoundsSpec)

/-- ITS FALSE NEIGHBOUR: 'it returns false'. Refute it at one input. -/
def shareBoundsWrong : ChangeSpec := { name := "shareBounds", fn := fun _ => fun
  | [d1, d2, d3] => { results := [.lit (.bool false)], args := [d1, d2, d3] }
  | _ => none }
def ShareBoundsWrongFalsely : Prop := shareBoundsRow.holds Try.pinned (OpenSpec.ofChange shareBoundsWrong)

/-- 'ricksteadlaw5.ShareLongest': WHATEVER THE INPUT: true; the input reads as it did. -/
def shareLongestSpec : ChangeSpec := { name := "shareLongest", fn := fun _ => fun
  | [d1, d2, d3] => { results := [.lit (.bool true)], args := [d1, d2, d3] }
  | _ => none }
def shareLongestRow : OpenClaim := { program := "yteidoknpnfbonaa", sum := "c0c04252f1b4d631fee050c88094d90121a8c225fce3fccce7397c3912e52b7c", func := "rickstead/ricksteadlaw5.ShareLongest", spec := "shareLongest", unfollowed := true, recurses := true, apart := false }
def ShareLongestSaid : Prop := shareLongestRow.holds Try.pinned (OpenSpec.ofChange shareLongestSpec)

/-- ITS FALSE NEIGHBOUR: 'it returns false'. Refute it at one input. -/
def shareLongestWrong : ChangeSpec := { name := "shareLongest", fn := fun _ => fun
  | [d1, d2, d3] => { results := [.lit (.bool false)], args := [d1, d2, d3] }
  | _ => none }
def ShareLongestWrongFalsely : Prop := shareLongestRow.holds Try.pinned (OpenSpec.ofChange shareLongestWrong)

/- THE SECOND FORM. 'bulk': how many values and letters a reading holds, each counted each time it is reached (what is shared counts as often as it is met; a slice's spare places count too). A statement '..UptoSaid' is the law's where the arguments, and the package variables that the reading takes, are together of bulk at most 1048576: NARROWER than '..Said'. Prove '..Said' where nothing that the law and all that it calls make is longer than what came in: it says more and counts as full. Else prove '..UptoSaid'. A law counts once. -/
mutual
def uptoBulk {H : Type} : DataW H → Nat
  | .lit (.string bytes) => bytes.length + 1
  | .lit _ => 1
  | .nil => 1
  | .ptr d => uptoBulk d + 1
  | .slice elems spare => uptoBulkAll elems + uptoBulkAll spare + 1
  | .agg parts => uptoBulkAll parts + 1
  | .iface _ d => uptoBulk d + 1
  | .map entries => uptoBulkEntries entries + 1
  | .held _ => 1
def uptoBulkAll {H : Type} : List (DataW H) → Nat
  | [] => 0
  | d :: r => uptoBulk d + uptoBulkAll r
def uptoBulkEntries {H : Type} : List (Lit × DataW H) → Nat
  | [] => 0
  | x :: r => uptoBulkEntry x + uptoBulkEntries r
def uptoBulkEntry {H : Type} : Lit × DataW H → Nat
  | (.string bytes, d) => bytes.length + uptoBulk d + 1
  | (_, d) => uptoBulk d + 1
 end
def uptoSmall : (H : Type) → List (DataW H) → Bool := fun _ ds => decide (uptoBulkAll ds ≤ 1048576)
def OpenSpec.upto (s : _root_.Go.ChangeSpec) : _root_.Go.OpenSpec := { _root_.Go.OpenSpec.ofChange s with cond := some uptoSmall }

/-- 'ricksteadlaw5.WrapLeast', WHERE WHAT IT READS IS OF BULK AT MOST 1048576: true; the input reads as it did. -/
def wrapLeastUptoRow : OpenClaim := { program := "yteidoknpnfbonaa", sum := "c0c04252f1b4d631fee050c88094d90121a8c225fce3fccce7397c3912e52b7c", func := "rickstead/ricksteadlaw5.WrapLeast", spec := "wrapLeast", apart := false, narrowed := true }
def WrapLeastUptoSaid : Prop := wrapLeastUptoRow.holds Try.pinned (OpenSpec.upto wrapLeastSpec)

/-- 'ricksteadlaw5.WrapFits', WHERE WHAT IT READS IS OF BULK AT MOST 1048576: true; the input reads as it did. -/
def wrapFitsUptoRow : OpenClaim := { program := "yteidoknpnfbonaa", sum := "c0c04252f1b4d631fee050c88094d90121a8c225fce3fccce7397c3912e52b7c", func := "rickstead/ricksteadlaw5.WrapFits", spec := "wrapFits", apart := false, narrowed := true }
def WrapFitsUptoSaid : Prop := wrapFitsUptoRow.holds Try.pinned (OpenSpec.upto wrapFitsSpec)

/-- 'ricksteadlaw5.WrapLater', WHERE WHAT IT READS IS OF BULK AT MOST 1048576: true; the input reads as it did. -/
def wrapLaterUptoRow : OpenClaim := { program := "yteidoknpnfbonaa", sum := "c0c04252f1b4d631fee050c88094d90121a8c225fce3fccce7397c3912e52b7c", func := "rickstead/ricksteadlaw5.WrapLater", spec := "wrapLater", apart := false, narrowed := true }
def WrapLaterUptoSaid : Prop := wrapLaterUptoRow.holds Try.pinned (OpenSpec.upto wrapLaterSpec)

/-- 'ricksteadlaw5.ShareGraham', WHERE WHAT IT READS IS OF BULK AT MOST 1048576: true; the input reads as it did. -/
def shareGrahamUptoRow : OpenClaim := { program := "yteidoknpnfbonaa", sum := "c0c04252f1b4d631fee050c88094d90121a8c225fce3fccce7397c3912e52b7c", func := "rickstead/ricksteadlaw5.ShareGraham", spec := "shareGraham", apart := false, narrowed := true }
def ShareGrahamUptoSaid : Prop := shareGrahamUptoRow.holds Try.pinned (OpenSpec.upto shareGrahamSpec)

/-- 'ricksteadlaw5.ShareOne', WHERE WHAT IT READS IS OF BULK AT MOST 1048576: true; the input reads as it did. -/
def shareOneUptoRow : OpenClaim := { program := "yteidoknpnfbonaa", sum := "c0c04252f1b4d631fee050c88094d90121a8c225fce3fccce7397c3912e52b7c", func := "rickstead/ricksteadlaw5.ShareOne", spec := "shareOne", apart := false, narrowed := true }
def ShareOneUptoSaid : Prop := shareOneUptoRow.holds Try.pinned (OpenSpec.upto shareOneSpec)

/-- 'ricksteadtop.TopMachines', WHERE WHAT IT READS IS OF BULK AT MOST 1048576: true; the input reads as it did. -/
def topMachinesUptoRow : OpenClaim := { program := "yteidoknpnfbonaa", sum := "c0c04252f1b4d631fee050c88094d90121a8c225fce3fccce7397c3912e52b7c", func := "rickstead/ricksteadtop.TopMachines", spec := "topMachines", unfollowed := true, recurses := true, apart := false, narrowed := true }
def TopMachinesUptoSaid : Prop := topMachinesUptoRow.holds Try.pinned (OpenSpec.upto topMachinesSpec)

/-- 'ricksteadlaw5.ShareBounds', WHERE WHAT IT READS IS OF BULK AT MOST 1048576: true; the input reads as it did. -/
def shareBoundsUptoRow : OpenClaim := { program := "yteidoknpnfbonaa", sum := "c0c04252f1b4d631fee050c88094d90121a8c225fce3fccce7397c3912e52b7c", func := "rickstead/ricksteadlaw5.ShareBounds", spec := "shareBounds", apart := false, narrowed := true }
def ShareBoundsUptoSaid : Prop := shareBoundsUptoRow.holds Try.pinned (OpenSpec.upto shareBoundsSpec)

/-- 'ricksteadlaw5.ShareLongest', WHERE WHAT IT READS IS OF BULK AT MOST 1048576: true; the input reads as it did. -/
def shareLongestUptoRow : OpenClaim := { program := "yteidoknpnfbonaa", sum := "c0c04252f1b4d631fee050c88094d90121a8c225fce3fccce7397c3912e52b7c", func := "rickstead/ricksteadlaw5.ShareLongest", spec := "shareLongest", unfollowed := true, recurses := true, apart := false, narrowed := true }
def ShareLongestUptoSaid : Prop := shareLongestUptoRow.holds Try.pinned (OpenSpec.upto shareLongestSpec)

end Rows
end Go.Proofs.Yteidoknpnfbonaa
