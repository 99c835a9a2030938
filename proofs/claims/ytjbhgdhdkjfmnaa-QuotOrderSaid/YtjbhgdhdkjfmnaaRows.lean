/-
  No cell of these rows narrows 'for every input' (looked for: loops, veiled, ifaces, maps, wideKeys, modest, calm, conditions, laid).
  DERIVED. THE GIVEN ROWS OF THIS SEAT. 2 by the template 'for every input the law returns true; each argument reads behind the call as it read before'; 0 by the template 'total and deterministic' (their statements: YtjbhgdhdkjfmnaaTotals.lean).
  GIVEN WITH THE SEED: the statements are not yours to turn. If you find one false, say at which input.
  Laid BY PROGRAM, IN A SANDBOX (cutbox-rows.mjs): the forced cells as the released guide's own fill.sh prints them over the translation 269cc387b18dc204… (all of the seat's roots in one cut). By AI agents, Wed Nov 11 2026. No macro, syntax, notation, axiom, sorry.
-/
import Derived.Test.YtjbhgdhdkjfmnaaChecked
import GoSem.Claim
import GoSem.ClaimJoined
import GoSem.ClaimMapViews
import Derived.JoinedTies
import Derived.KernelRfl
namespace Go.Proofs.Ytjbhgdhdkjfmnaa
/- THE CELL 'sum', in the pinned program and in every row, IS THE sha256 OF THE DUMP (.gsa) THAT YtjbhgdhdkjfmnaaProg.lean LOADS. Nothing in Lean hashes anything: it is a label: what it is worth is what the hold of that sum in a sandbox is worth. -/
noncomputable def Try.pinned : Pinned := { name := "ytjbhgdhdkjfmnaa", sum := "269cc387b18dc2047d2785f3e2cb58ebb5e910a29594838ee7fb2da06ec541e5", checked := Try.checked }
namespace Rows
def none {H : Type} : Left H := { results := [], args := [] }

/-- 'ricksteadlaw6.QuotFloat': WHATEVER THE INPUT: true; the input reads as it did. -/
def quotFloatSpec : ChangeSpec := { name := "quotFloat", fn := fun _ => fun
  | [d1, d2, d3, d4] => { results := [.lit (.bool true)], args := [d1, d2, d3, d4] }
  | _ => none }
def quotFloatRow : OpenClaim := { program := "ytjbhgdhdkjfmnaa", sum := "269cc387b18dc2047d2785f3e2cb58ebb5e910a29594838ee7fb2da06ec541e5", func := "rickstead/ricksteadlaw6.QuotFloat", spec := "quotFloat", inPlace := ["math.Float64bits"], apart := false }
def QuotFloatSaid : Prop := quotFloatRow.holds Try.pinned (OpenSpec.ofChange quotFloatSpec)

/-- ITS FALSE NEIGHBOUR: 'it returns false'. Refute it at one input. -/
def quotFloatWrong : ChangeSpec := { name := "quotFloat", fn := fun _ => fun
  | [d1, d2, d3, d4] => { results := [.lit (.bool false)], args := [d1, d2, d3, d4] }
  | _ => none }
def QuotFloatWrongFalsely : Prop := quotFloatRow.holds Try.pinned (OpenSpec.ofChange quotFloatWrong)

/-- 'ricksteadlaw6.QuotOrder': WHATEVER THE INPUT: true; the input reads as it did. -/
def quotOrderSpec : ChangeSpec := { name := "quotOrder", fn := fun _ => fun
  | [d1, d2, d3, d4, d5, d6, d7] => { results := [.lit (.bool true)], args := [d1, d2, d3, d4, d5, d6, d7] }
  | _ => none }
def quotOrderRow : OpenClaim := { program := "ytjbhgdhdkjfmnaa", sum := "269cc387b18dc2047d2785f3e2cb58ebb5e910a29594838ee7fb2da06ec541e5", func := "rickstead/ricksteadlaw6.QuotOrder", spec := "quotOrder", inPlace := ["math.Float64bits"], apart := false }
def QuotOrderSaid : Prop := quotOrderRow.holds Try.pinned (OpenSpec.ofChange quotOrderSpec)

/-- ITS FALSE NEIGHBOUR: 'it returns false'. Refute it at one input. -/
def quotOrderWrong : ChangeSpec := { name := "quotOrder", fn := fun _ => fun
  | [d1, d2, d3, d4, d5, d6, d7] => { results := [.lit (.bool false)], args := [d1, d2, d3, d4, d5, d6, d7] }
  | _ => none }
def QuotOrderWrongFalsely : Prop := quotOrderRow.holds Try.pinned (OpenSpec.ofChange quotOrderWrong)

/- THE SECOND FORM. 'bulk': how many values and letters a reading holds, each counted each time it is reached (what is shared counts as often as it is met; a slice's spare places count too). A statement '..UptoSaid' is the law's where the arguments, and the package variables that the reading takes, are together of bulk at most 1048576: NARROWER than '..Said'. Prove '..Said' where nothing that the law and all that it calls make is longer than what came in: it says more and counts as full. Else prove '..UptoSaid'. A law counts once. -/
mutual
def uptoBulk {H : Type} : DataW H → Nat
  | .lit (.string bytes) => bytes.length + 1
  | .lit _ => 1
  | .nil => 1
  | .ptr d => uptoBulk d + 1
  | .slice elems spare => uptoBulkAll elems + uptoBulkAll spare + 1
  | .agg parts => uptoBulkAll parts + 1
  | .iface _ d => uptoBulk d + 1
  | .map entries => uptoBulkEntries entries + 1
  | .held _ => 1
def uptoBulkAll {H : Type} : List (DataW H) → Nat
  | [] => 0
  | d :: r => uptoBulk d + uptoBulkAll r
def uptoBulkEntries {H : Type} : List (Lit × DataW H) → Nat
  | [] => 0
  | x :: r => uptoBulkEntry x + uptoBulkEntries r
def uptoBulkEntry {H : Type} : Lit × DataW H → Nat
  | (.string bytes, d) => bytes.length + uptoBulk d + 1
  | (_, d) => uptoBulk d + 1
 end
def uptoSmall : (H : Type) → List (DataW H) → Bool := fun _ ds => decide (uptoBulkAll ds ≤ 1048576)
def OpenSpec.upto (s : _root_.Go.ChangeSpec) : _root_.Go.OpenSpec := { _root_.Go.OpenSpec.ofChange s with cond := some uptoSmall }

/-- 'ricksteadlaw6.QuotFloat', WHERE WHAT IT READS IS OF BULK AT MOST 1048576: true; the input reads as it did. -/
def quotFloatUptoRow : OpenClaim := { program := "ytjbhgdhdkjfmnaa", sum := "269cc387b18dc2047d2785f3e2cb58ebb5e910a29594838ee7fb2da06ec541e5", func := "rickstead/ricksteadlaw6.QuotFloat", spec := "quotFloat", inPlace := ["math.Float64bits"], apart := false, narrowed := true }
def QuotFloatUptoSaid : Prop := quotFloatUptoRow.holds Try.pinned (OpenSpec.upto quotFloatSpec)

/-- 'ricksteadlaw6.QuotOrder', WHERE WHAT IT READS IS OF BULK AT MOST 1048576: true; the input reads as it did. -/
def quotOrderUptoRow : OpenClaim := { program := "ytjbhgdhdkjfmnaa", sum := "269cc387b18dc2047d2785f3e2cb58ebb5e910a29594838ee7fb2da06ec541e5", func := "rickstead/ricksteadlaw6.QuotOrder", spec := "quotOrder", inPlace := ["math.Float64bits"], apart := false, narrowed := true }
def QuotOrderUptoSaid : Prop := quotOrderUptoRow.holds Try.pinned (OpenSpec.upto quotOrderSpec)

end Rows
end Go.Proofs.Ytjbhgdhdkjfmnaa
