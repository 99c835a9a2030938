/-
  No cell of these rows narrows 'for every input' (looked for: loops, veiled, ifaces, maps, wideKeys, modest, calm, conditions, laid).
  DERIVED. THE GIVEN ROWS OF THIS SEAT. 4 by the template 'for every input the law returns true; each argument reads behind the call as it read before'; 0 by the template 'total and deterministic' (their statements: YtcdmbbnenljnlaaTotals.lean).
  GIVEN WITH THE SEED: the statements are not yours to turn. If you find one false, say at which input.
  Laid BY PROGRAM, IN A SANDBOX (cutbox-rows.mjs): the forced cells as the released guide's own fill.sh prints them over the translation de5b5cd7b4c87b9e… (all of the seat's roots in one cut). By AI agents, Wed Nov 11 2026. No macro, syntax, notation, axiom, sorry.
-/
import Derived.Test.YtcdmbbnenljnlaaChecked
import GoSem.Claim
import GoSem.ClaimJoined
import GoSem.ClaimMapViews
import Derived.JoinedTies
import Derived.KernelRfl
namespace Go.Proofs.Ytcdmbbnenljnlaa
/- THE CELL 'sum', in the pinned program and in every row, IS THE sha256 OF THE DUMP (.gsa) THAT YtcdmbbnenljnlaaProg.lean LOADS. Nothing in Lean hashes anything: it is a label: what it is worth is what the hold of that sum in a sandbox is worth. -/
noncomputable def Try.pinned : Pinned := { name := "ytcdmbbnenljnlaa", sum := "de5b5cd7b4c87b9ecae632f35a4a2b62f7d6e676f23ffd1b3090ddc66965e408", checked := Try.checked }
namespace Rows
def none {H : Type} : Left H := { results := [], args := [] }

/-- 'ricksteadlaw6.SimTimes': WHATEVER THE INPUT: true; the input reads as it did. -/
def simTimesSpec : ChangeSpec := { name := "simTimes", fn := fun _ => fun
  | [d1, d2] => { results := [.lit (.bool true)], args := [d1, d2] }
  | _ => none }
def simTimesRow : OpenClaim := { program := "ytcdmbbnenljnlaa", sum := "de5b5cd7b4c87b9ecae632f35a4a2b62f7d6e676f23ffd1b3090ddc66965e408", func := "rickstead/ricksteadlaw6.SimTimes", spec := "simTimes", unfollowed := true, recurses := true, apart := false }
def SimTimesSaid : Prop := simTimesRow.holds Try.pinned (OpenSpec.ofChange simTimesSpec)

/-- ITS FALSE NEIGHBOUR: 'it returns false'. Refute it at one input. -/
def simTimesWrong : ChangeSpec := { name := "simTimes", fn := fun _ => fun
  | [d1, d2] => { results := [.lit (.bool false)], args := [d1, d2] }
  | _ => none }
def SimTimesWrongFalsely : Prop := simTimesRow.holds Try.pinned (OpenSpec.ofChange simTimesWrong)

/-- 'ricksteadlaw6.SimUntil': WHATEVER THE INPUT: true; the input reads as it did. -/
def simUntilSpec : ChangeSpec := { name := "simUntil", fn := fun _ => fun
  | [d1, d2] => { results := [.lit (.bool true)], args := [d1, d2] }
  | _ => none }
def simUntilRow : OpenClaim := { program := "ytcdmbbnenljnlaa", sum := "de5b5cd7b4c87b9ecae632f35a4a2b62f7d6e676f23ffd1b3090ddc66965e408", func := "rickstead/ricksteadlaw6.SimUntil", spec := "simUntil", unfollowed := true, recurses := true, apart := false }
def SimUntilSaid : Prop := simUntilRow.holds Try.pinned (OpenSpec.ofChange simUntilSpec)

/-- ITS FALSE NEIGHBOUR: 'it returns false'. Refute it at one input. -/
def simUntilWrong : ChangeSpec := { name := "simUntil", fn := fun _ => fun
  | [d1, d2] => { results := [.lit (.bool false)], args := [d1, d2] }
  | _ => none }
def SimUntilWrongFalsely : Prop := simUntilRow.holds Try.pinned (OpenSpec.ofChange simUntilWrong)

/-- 'ricksteadlaw6.SimDrop': WHATEVER THE INPUT: true; the input reads as it did. -/
def simDropSpec : ChangeSpec := { name := "simDrop", fn := fun _ => fun
  | [d1, d2] => { results := [.lit (.bool true)], args := [d1, d2] }
  | _ => none }
def simDropRow : OpenClaim := { program := "ytcdmbbnenljnlaa", sum := "de5b5cd7b4c87b9ecae632f35a4a2b62f7d6e676f23ffd1b3090ddc66965e408", func := "rickstead/ricksteadlaw6.SimDrop", spec := "simDrop", unfollowed := true, recurses := true, apart := false }
def SimDropSaid : Prop := simDropRow.holds Try.pinned (OpenSpec.ofChange simDropSpec)

/-- ITS FALSE NEIGHBOUR: 'it returns false'. Refute it at one input. -/
def simDropWrong : ChangeSpec := { name := "simDrop", fn := fun _ => fun
  | [d1, d2] => { results := [.lit (.bool false)], args := [d1, d2] }
  | _ => none }
def SimDropWrongFalsely : Prop := simDropRow.holds Try.pinned (OpenSpec.ofChange simDropWrong)

/-- 'ricksteadtop.TopDeep': WHATEVER THE INPUT: true; the input reads as it did. -/
def topDeepSpec : ChangeSpec := { name := "topDeep", fn := fun _ => fun
  | [d] => { results := [.lit (.bool true)], args := [d] }
  | _ => none }
def topDeepRow : OpenClaim := { program := "ytcdmbbnenljnlaa", sum := "de5b5cd7b4c87b9ecae632f35a4a2b62f7d6e676f23ffd1b3090ddc66965e408", func := "rickstead/ricksteadtop.TopDeep", spec := "topDeep", unfollowed := true, recurses := true, apart := false }
def TopDeepSaid : Prop := topDeepRow.holds Try.pinned (OpenSpec.ofChange topDeepSpec)

/-- ITS FALSE NEIGHBOUR: 'it returns false'. Refute it at one input. -/
def topDeepWrong : ChangeSpec := { name := "topDeep", fn := fun _ => fun
  | [d] => { results := [.lit (.bool false)], args := [d] }
  | _ => none }
def TopDeepWrongFalsely : Prop := topDeepRow.holds Try.pinned (OpenSpec.ofChange topDeepWrong)

/- THE SECOND FORM. 'bulk': how many values and letters a reading holds, each counted each time it is reached (what is shared counts as often as it is met; a slice's spare places count too). A statement '..UptoSaid' is the law's where the arguments, and the package variables that the reading takes, are together of bulk at most 1048576: NARROWER than '..Said'. Prove '..Said' where nothing that the law and all that it calls make is longer than what came in: it says more and counts as full. Else prove '..UptoSaid'. A law counts once. -/
mutual
def uptoBulk {H : Type} : DataW H → Nat
  | .lit (.string bytes) => bytes.length + 1
  | .lit _ => 1
  | .nil => 1
  | .ptr d => uptoBulk d + 1
  | .slice elems spare => uptoBulkAll elems + uptoBulkAll spare + 1
  | .agg parts => uptoBulkAll parts + 1
  | .iface _ d => uptoBulk d + 1
  | .map entries => uptoBulkEntries entries + 1
  | .held _ => 1
def uptoBulkAll {H : Type} : List (DataW H) → Nat
  | [] => 0
  | d :: r => uptoBulk d + uptoBulkAll r
def uptoBulkEntries {H : Type} : List (Lit × DataW H) → Nat
  | [] => 0
  | x :: r => uptoBulkEntry x + uptoBulkEntries r
def uptoBulkEntry {H : Type} : Lit × DataW H → Nat
  | (.string bytes, d) => bytes.length + uptoBulk d + 1
  | (_, d) => uptoBulk d + 1
 end
def uptoSmall : (H : Type) → List (DataW H) → Bool := fun _ ds => decide (uptoBulkAll ds ≤ 1048576)
def OpenSpec.upto (s : _root_.Go.ChangeSpec) : _root_.Go.OpenSpec := { _root_.Go.OpenSpec.ofChange s with cond := some uptoSmall }

/-- 'ricksteadlaw6.SimTimes', WHERE WHAT IT READS IS OF BULK AT MOST 1048576: true; the input reads as it did. -/
def simTimesUptoRow : OpenClaim := { program := "ytcdmbbnenljnlaa", sum := "de5b5cd7b4c87b9ecae632f35a4a2b62f7d6e676f23ffd1b3090ddc66965e408", func := "rickstead/ricksteadlaw6.SimTimes", spec := "simTimes", unfollowed := true, recurses := true, apart := false, narrowed := true }
def SimTimesUptoSaid : Prop := simTimesUptoRow.holds Try.pinned (OpenSpec.upto simTimesSpec)

/-- 'ricksteadlaw6.SimUntil', WHERE WHAT IT READS IS OF BULK AT MOST 1048576: true; the input reads as it did. -/
def simUntilUptoRow : OpenClaim := { program := "ytcdmbbnenljnlaa", sum := "de5b5cd7b4c87b9ecae632f35a4a2b62f7d6e676f23ffd1b3090ddc66965e408", func := "rickstead/ricksteadlaw6.SimUntil", spec := "simUntil", unfollowed := true, recurses := true, apart := false, narrowed := true }
def SimUntilUptoSaid : Prop := simUntilUptoRow.holds Try.pinned (OpenSpec.upto simUntilSpec)

/-- 'ricksteadlaw6.SimDrop', WHERE WHAT IT READS IS OF BULK AT MOST 1048576: true; the input reads as it did. -/
def simDropUptoRow : OpenClaim := { program := "ytcdmbbnenljnlaa", sum := "de5b5cd7b4c87b9ecae632f35a4a2b62f7d6e676f23ffd1b3090ddc66965e408", func := "rickstead/ricksteadlaw6.SimDrop", spec := "simDrop", unfollowed := true, recurses := true, apart := false, narrowed := true }
def SimDropUptoSaid : Prop := simDropUptoRow.holds Try.pinned (OpenSpec.upto simDropSpec)

/-- 'ricksteadtop.TopDeep', WHERE WHAT IT READS IS OF BULK AT MOST 1048576: true; the input reads as it did. -/
def topDeepUptoRow : OpenClaim := { program := "ytcdmbbnenljnlaa", sum := "de5b5cd7b4c87b9ecae632f35a4a2b62f7d6e676f23ffd1b3090ddc66965e408", func := "rickstead/ricksteadtop.TopDeep", spec := "topDeep", unfollowed := true, recurses := true, apart := false, narrowed := true }
def TopDeepUptoSaid : Prop := topDeepUptoRow.holds Try.pinned (OpenSpec.upto topDeepSpec)

end Rows
end Go.Proofs.Ytcdmbbnenljnlaa
