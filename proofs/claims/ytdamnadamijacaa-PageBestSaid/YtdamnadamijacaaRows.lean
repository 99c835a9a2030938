/-
  No cell of these rows narrows 'for every input' (looked for: loops, veiled, ifaces, maps, wideKeys, modest, calm, conditions, laid).
  DERIVED. THE GIVEN ROWS OF THIS SEAT. 4 by the template 'for every input the law returns true; each argument reads behind the call as it read before'; 0 by the template 'total and deterministic' (their statements: YtdamnadamijacaaTotals.lean).
  GIVEN WITH THE SEED: the statements are not yours to turn. If you find one false, say at which input.
  Laid BY PROGRAM, IN A SANDBOX (cutbox-rows.mjs): the forced cells as the released guide's own fill.sh prints them over the translation c15a49e0f7c95d85… (all of the seat's roots in one cut). By AI agents, Wed Nov 11 2026. No macro, syntax, notation, axiom, sorry.
-/
import Derived.Test.YtdamnadamijacaaChecked
import GoSem.Claim
import GoSem.ClaimJoined
import GoSem.ClaimMapViews
import Derived.JoinedTies
import Derived.KernelRfl
namespace Go.Proofs.Ytdamnadamijacaa
/- THE CELL 'sum', in the pinned program and in every row, IS THE sha256 OF THE DUMP (.gsa) THAT YtdamnadamijacaaProg.lean LOADS. Nothing in Lean hashes anything: it is a label: what it is worth is what the hold of that sum in a sandbox is worth. -/
noncomputable def Try.pinned : Pinned := { name := "ytdamnadamijacaa", sum := "c15a49e0f7c95d85944facae0d617400b108ac48048f05ecc1e8af29f3068309", checked := Try.checked }
namespace Rows
def none {H : Type} : Left H := { results := [], args := [] }

/-- 'ricksteadlaw5.PageFirst': WHATEVER THE INPUT: true; the input reads as it did. -/
def pageFirstSpec : ChangeSpec := { name := "pageFirst", fn := fun _ => fun
  | [d1, d2, d3] => { results := [.lit (.bool true)], args := [d1, d2, d3] }
  | _ => none }
def pageFirstRow : OpenClaim := { program := "ytdamnadamijacaa", sum := "c15a49e0f7c95d85944facae0d617400b108ac48048f05ecc1e8af29f3068309", func := "rickstead/ricksteadlaw5.PageFirst", spec := "pageFirst", unfollowed := true, recurses := true, apart := false }
def PageFirstSaid : Prop := pageFirstRow.holds Try.pinned (OpenSpec.ofChange pageFirstSpec)

/-- ITS FALSE NEIGHBOUR: 'it returns false'. Refute it at one input. -/
def pageFirstWrong : ChangeSpec := { name := "pageFirst", fn := fun _ => fun
  | [d1, d2, d3] => { results := [.lit (.bool false)], args := [d1, d2, d3] }
  | _ => none }
def PageFirstWrongFalsely : Prop := pageFirstRow.holds Try.pinned (OpenSpec.ofChange pageFirstWrong)

/-- 'ricksteadlaw5.PageStack': WHATEVER THE INPUT: true; the input reads as it did. -/
def pageStackSpec : ChangeSpec := { name := "pageStack", fn := fun _ => fun
  | [d1, d2] => { results := [.lit (.bool true)], args := [d1, d2] }
  | _ => none }
def pageStackRow : OpenClaim := { program := "ytdamnadamijacaa", sum := "c15a49e0f7c95d85944facae0d617400b108ac48048f05ecc1e8af29f3068309", func := "rickstead/ricksteadlaw5.PageStack", spec := "pageStack", unfollowed := true, recurses := true, apart := false }
def PageStackSaid : Prop := pageStackRow.holds Try.pinned (OpenSpec.ofChange pageStackSpec)

/-- ITS FALSE NEIGHBOUR: 'it returns false'. Refute it at one input. -/
def pageStackWrong : ChangeSpec := { name := "pageStack", fn := fun _ => fun
  | [d1, d2] => { results := [.lit (.bool false)], args := [d1, d2] }
  | _ => none }
def PageStackWrongFalsely : Prop := pageStackRow.holds Try.pinned (OpenSpec.ofChange pageStackWrong)

/-- 'ricksteadlaw5.PageRatio': WHATEVER THE INPUT: true; the input reads as it did. -/
def pageRatioSpec : ChangeSpec := { name := "pageRatio", fn := fun _ => fun
  | [d1, d2, d3] => { results := [.lit (.bool true)], args := [d1, d2, d3] }
  | _ => none }
def pageRatioRow : OpenClaim := { program := "ytdamnadamijacaa", sum := "c15a49e0f7c95d85944facae0d617400b108ac48048f05ecc1e8af29f3068309", func := "rickstead/ricksteadlaw5.PageRatio", spec := "pageRatio", unfollowed := true, recurses := true, apart := false }
def PageRatioSaid : Prop := pageRatioRow.holds Try.pinned (OpenSpec.ofChange pageRatioSpec)

/-- ITS FALSE NEIGHBOUR: 'it returns false'. Refute it at one input. -/
def pageRatioWrong : ChangeSpec := { name := "pageRatio", fn := fun _ => fun
  | [d1, d2, d3] => { results := [.lit (.bool false)], args := [d1, d2, d3] }
  | _ => none }
def PageRatioWrongFalsely : Prop := pageRatioRow.holds Try.pinned (OpenSpec.ofChange pageRatioWrong)

/-- 'ricksteadlaw5.PageBest': WHATEVER THE INPUT: true; the input reads as it did. -/
def pageBestSpec : ChangeSpec := { name := "pageBest", fn := fun _ => fun
  | [d1, d2, d3] => { results := [.lit (.bool true)], args := [d1, d2, d3] }
  | _ => none }
def pageBestRow : OpenClaim := { program := "ytdamnadamijacaa", sum := "c15a49e0f7c95d85944facae0d617400b108ac48048f05ecc1e8af29f3068309", func := "rickstead/ricksteadlaw5.PageBest", spec := "pageBest", unfollowed := true, recurses := true, apart := false }
def PageBestSaid : Prop := pageBestRow.holds Try.pinned (OpenSpec.ofChange pageBestSpec)

/-- ITS FALSE NEIGHBOUR: 'it returns false'. Refute it at one input. -/
def pageBestWrong : ChangeSpec := { name := "pageBest", fn := fun _ => fun
  | [d1, d2, d3] => { results := [.lit (.bool false)], args := [d1, d2, d3] }
  | _ => none }
def PageBestWrongFalsely : Prop := pageBestRow.holds Try.pinned (OpenSpec.ofChange pageBestWrong)

/- THE SECOND FORM. 'bulk': how many values and letters a reading holds, each counted each time it is reached (what is shared counts as often as it is met; a slice's spare places count too). A statement '..UptoSaid' is the law's where the arguments, and the package variables that the reading takes, are together of bulk at most 1048576: NARROWER than '..Said'. Prove '..Said' where nothing that the law and all that it calls make is longer than what came in: it says more and counts as full. Else prove '..UptoSaid'. A law counts once. -/
mutual
def uptoBulk {H : Type} : DataW H → Nat
  | .lit (.string bytes) => bytes.length + 1
  | .lit _ => 1
  | .nil => 1
  | .ptr d => uptoBulk d + 1
  | .slice elems spare => uptoBulkAll elems + uptoBulkAll spare + 1
  | .agg parts => uptoBulkAll parts + 1
  | .iface _ d => uptoBulk d + 1
  | .map entries => uptoBulkEntries entries + 1
  | .held _ => 1
def uptoBulkAll {H : Type} : List (DataW H) → Nat
  | [] => 0
  | d :: r => uptoBulk d + uptoBulkAll r
def uptoBulkEntries {H : Type} : List (Lit × DataW H) → Nat
  | [] => 0
  | x :: r => uptoBulkEntry x + uptoBulkEntries r
def uptoBulkEntry {H : Type} : Lit × DataW H → Nat
  | (.string bytes, d) => bytes.length + uptoBulk d + 1
  | (_, d) => uptoBulk d + 1
 end
def uptoSmall : (H : Type) → List (DataW H) → Bool := fun _ ds => decide (uptoBulkAll ds ≤ 1048576)
def OpenSpec.upto (s : _root_.Go.ChangeSpec) : _root_.Go.OpenSpec := { _root_.Go.OpenSpec.ofChange s with cond := some uptoSmall }

/-- 'ricksteadlaw5.PageFirst', WHERE WHAT IT READS IS OF BULK AT MOST 1048576: true; the input reads as it did. -/
def pageFirstUptoRow : OpenClaim := { program := "ytdamnadamijacaa", sum := "c15a49e0f7c95d85944facae0d617400b108ac48048f05ecc1e8af29f3068309", func := "rickstead/ricksteadlaw5.PageFirst", spec := "pageFirst", unfollowed := true, recurses := true, apart := false, narrowed := true }
def PageFirstUptoSaid : Prop := pageFirstUptoRow.holds Try.pinned (OpenSpec.upto pageFirstSpec)

/-- 'ricksteadlaw5.PageStack', WHERE WHAT IT READS IS OF BULK AT MOST 1048576: true; the input reads as it did. -/
def pageStackUptoRow : OpenClaim := { program := "ytdamnadamijacaa", sum := "c15a49e0f7c95d85944facae0d617400b108ac48048f05ecc1e8af29f3068309", func := "rickstead/ricksteadlaw5.PageStack", spec := "pageStack", unfollowed := true, recurses := true, apart := false, narrowed := true }
def PageStackUptoSaid : Prop := pageStackUptoRow.holds Try.pinned (OpenSpec.upto pageStackSpec)

/-- 'ricksteadlaw5.PageRatio', WHERE WHAT IT READS IS OF BULK AT MOST 1048576: true; the input reads as it did. -/
def pageRatioUptoRow : OpenClaim := { program := "ytdamnadamijacaa", sum := "c15a49e0f7c95d85944facae0d617400b108ac48048f05ecc1e8af29f3068309", func := "rickstead/ricksteadlaw5.PageRatio", spec := "pageRatio", unfollowed := true, recurses := true, apart := false, narrowed := true }
def PageRatioUptoSaid : Prop := pageRatioUptoRow.holds Try.pinned (OpenSpec.upto pageRatioSpec)

/-- 'ricksteadlaw5.PageBest', WHERE WHAT IT READS IS OF BULK AT MOST 1048576: true; the input reads as it did. -/
def pageBestUptoRow : OpenClaim := { program := "ytdamnadamijacaa", sum := "c15a49e0f7c95d85944facae0d617400b108ac48048f05ecc1e8af29f3068309", func := "rickstead/ricksteadlaw5.PageBest", spec := "pageBest", unfollowed := true, recurses := true, apart := false, narrowed := true }
def PageBestUptoSaid : Prop := pageBestUptoRow.holds Try.pinned (OpenSpec.upto pageBestSpec)

end Rows
end Go.Proofs.Ytdamnadamijacaa
