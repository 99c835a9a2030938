/-
  No cell of these rows narrows 'for every input' (looked for: loops, veiled, ifaces, maps, wideKeys, modest, calm, conditions, laid).
  DERIVED. THE GIVEN ROWS OF THIS SEAT. 3 by the template 'for every input the law returns true; each argument reads behind the call as it read before'; 0 by the template 'total and deterministic' (their statements: YteoijalamhbkiaaTotals.lean).
  GIVEN WITH THE SEED: the statements are not yours to turn. If you find one false, say at which input.
  Laid BY PROGRAM, IN A SANDBOX (cutbox-rows.mjs): the forced cells as the released guide's own fill.sh prints them over the translation bbc22b886018e916… (all of the seat's roots in one cut). By AI agents, Wed Nov 11 2026. No macro, syntax, notation, axiom, sorry.
-/
import Derived.Test.YteoijalamhbkiaaChecked
import GoSem.Claim
import GoSem.ClaimJoined
import GoSem.ClaimMapViews
import Derived.JoinedTies
import Derived.KernelRfl
namespace Go.Proofs.Yteoijalamhbkiaa
/- THE CELL 'sum', in the pinned program and in every row, IS THE sha256 OF THE DUMP (.gsa) THAT YteoijalamhbkiaaProg.lean LOADS. Nothing in Lean hashes anything: it is a label: what it is worth is what the hold of that sum in a sandbox is worth. -/
noncomputable def Try.pinned : Pinned := { name := "yteoijalamhbkiaa", sum := "bbc22b886018e916ae8a0938af2888d3d7a7eafbd57d0f2af02806657c2e557f", checked := Try.checked }
namespace Rows
def none {H : Type} : Left H := { results := [], args := [] }

/-- 'ricksteadlaw6.SackCut': WHATEVER THE INPUT: true; the input reads as it did. -/
def sackCutSpec : ChangeSpec := { name := "sackCut", fn := fun _ => fun
  | [d1, d2, d3] => { results := [.lit (.bool true)], args := [d1, d2, d3] }
  | _ => none }
def sackCutRow : OpenClaim := { program := "yteoijalamhbkiaa", sum := "bbc22b886018e916ae8a0938af2888d3d7a7eafbd57d0f2af02806657c2e557f", func := "rickstead/ricksteadlaw6.SackCut", spec := "sackCut", unfollowed := true, recurses := true, apart := false }
def SackCutSaid : Prop := sackCutRow.holds Try.pinned (OpenSpec.ofChange sackCutSpec)

/-- ITS FALSE NEIGHBOUR: 'it returns false'. Refute it at one input. -/
def sackCutWrong : ChangeSpec := { name := "sackCut", fn := fun _ => fun
  | [d1, d2, d3] => { results := [.lit (.bool false)], args := [d1, d2, d3] }
  | _ => none }
def SackCutWrongFalsely : Prop := sackCutRow.holds Try.pinned (OpenSpec.ofChange sackCutWrong)

/-- 'ricksteadlaw6.SackBest': WHATEVER THE INPUT: true; the input reads as it did. -/
def sackBestSpec : ChangeSpec := { name := "sackBest", fn := fun _ => fun
  | [d1, d2, d3] => { results := [.lit (.bool true)], args := [d1, d2, d3] }
  | _ => none }
def sackBestRow : OpenClaim := { program := "yteoijalamhbkiaa", sum := "bbc22b886018e916ae8a0938af2888d3d7a7eafbd57d0f2af02806657c2e557f", func := "rickstead/ricksteadlaw6.SackBest", spec := "sackBest", unfollowed := true, recurses := true, apart := false }
def SackBestSaid : Prop := sackBestRow.holds Try.pinned (OpenSpec.ofChange sackBestSpec)

/-- ITS FALSE NEIGHBOUR: 'it returns false'. Refute it at one input. -/
def sackBestWrong : ChangeSpec := { name := "sackBest", fn := fun _ => fun
  | [d1, d2, d3] => { results := [.lit (.bool false)], args := [d1, d2, d3] }
  | _ => none }
def SackBestWrongFalsely : Prop := sackBestRow.holds Try.pinned (OpenSpec.ofChange sackBestWrong)

/-- 'ricksteadlaw6.SackHalf': WHATEVER THE INPUT: true; the input reads as it did. -/
def sackHalfSpec : ChangeSpec := { name := "sackHalf", fn := fun _ => fun
  | [d1, d2] => { results := [.lit (.bool true)], args := [d1, d2] }
  | _ => none }
def sackHalfRow : OpenClaim := { program := "yteoijalamhbkiaa", sum := "bbc22b886018e916ae8a0938af2888d3d7a7eafbd57d0f2af02806657c2e557f", func := "rickstead/ricksteadlaw6.SackHalf", spec := "sackHalf", unfollowed := true, recurses := true, apart := false }
def SackHalfSaid : Prop := sackHalfRow.holds Try.pinned (OpenSpec.ofChange sackHalfSpec)

/-- ITS FALSE NEIGHBOUR: 'it returns false'. Refute it at one input. -/
def sackHalfWrong : ChangeSpec := { name := "sackHalf", fn := fun _ => fun
  | [d1, d2] => { results := [.lit (.bool false)], args := [d1, d2] }
  | _ => none }
def SackHalfWrongFalsely : Prop := sackHalfRow.holds Try.pinned (OpenSpec.ofChange sackHalfWrong)

/- THE SECOND FORM. 'bulk': how many values and letters a reading holds, each counted each time it is reached (what is shared counts as often as it is met; a slice's spare places count too). A statement '..UptoSaid' is the law's where the arguments, and the package variables that the reading takes, are together of bulk at most 1048576: NARROWER than '..Said'. Prove '..Said' where nothing that the law and all that it calls make is longer than what came in: it says more and counts as full. Else prove '..UptoSaid'. A law counts once. -/
mutual
def uptoBulk {H : Type} : DataW H → Nat
  | .lit (.string bytes) => bytes.length + 1
  | .lit _ => 1
  | .nil => 1
  | .ptr d => uptoBulk d + 1
  | .slice elems spare => uptoBulkAll elems + uptoBulkAll spare + 1
  | .agg parts => uptoBulkAll parts + 1
  | .iface _ d => uptoBulk d + 1
  | .map entries => uptoBulkEntries entries + 1
  | .held _ => 1
def uptoBulkAll {H : Type} : List (DataW H) → Nat
  | [] => 0
  | d :: r => uptoBulk d + uptoBulkAll r
def uptoBulkEntries {H : Type} : List (Lit × DataW H) → Nat
  | [] => 0
  | x :: r => uptoBulkEntry x + uptoBulkEntries r
def uptoBulkEntry {H : Type} : Lit × DataW H → Nat
  | (.string bytes, d) => bytes.length + uptoBulk d + 1
  | (_, d) => uptoBulk d + 1
 end
def uptoSmall : (H : Type) → List (DataW H) → Bool := fun _ ds => decide (uptoBulkAll ds ≤ 1048576)
def OpenSpec.upto (s : _root_.Go.ChangeSpec) : _root_.Go.OpenSpec := { _root_.Go.OpenSpec.ofChange s with cond := some uptoSmall }

/-- 'ricksteadlaw6.SackCut', WHERE WHAT IT READS IS OF BULK AT MOST 1048576: true; the input reads as it did. -/
def sackCutUptoRow : OpenClaim := { program := "yteoijalamhbkiaa", sum := "bbc22b886018e916ae8a0938af2888d3d7a7eafbd57d0f2af02806657c2e557f", func := "rickstead/ricksteadlaw6.SackCut", spec := "sackCut", unfollowed := true, recurses := true, apart := false, narrowed := true }
def SackCutUptoSaid : Prop := sackCutUptoRow.holds Try.pinned (OpenSpec.upto sackCutSpec)

/-- 'ricksteadlaw6.SackBest', WHERE WHAT IT READS IS OF BULK AT MOST 1048576: true; the input reads as it did. -/
def sackBestUptoRow : OpenClaim := { program := "yteoijalamhbkiaa", sum := "bbc22b886018e916ae8a0938af2888d3d7a7eafbd57d0f2af02806657c2e557f", func := "rickstead/ricksteadlaw6.SackBest", spec := "sackBest", unfollowed := true, recurses := true, apart := false, narrowed := true }
def SackBestUptoSaid : Prop := sackBestUptoRow.holds Try.pinned (OpenSpec.upto sackBestSpec)

/-- 'ricksteadlaw6.SackHalf', WHERE WHAT IT READS IS OF BULK AT MOST 1048576: true; the input reads as it did. -/
def sackHalfUptoRow : OpenClaim := { program := "yteoijalamhbkiaa", sum := "bbc22b886018e916ae8a0938af2888d3d7a7eafbd57d0f2af02806657c2e557f", func := "rickstead/ricksteadlaw6.SackHalf", spec := "sackHalf", unfollowed := true, recurses := true, apart := false, narrowed := true }
def SackHalfUptoSaid : Prop := sackHalfUptoRow.holds Try.pinned (OpenSpec.upto sackHalfSpec)

end Rows
end Go.Proofs.Yteoijalamhbkiaa
