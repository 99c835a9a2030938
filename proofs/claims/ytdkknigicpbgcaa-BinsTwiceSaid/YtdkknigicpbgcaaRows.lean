/-
  No cell of these rows narrows 'for every input' (looked for: loops, veiled, ifaces, maps, wideKeys, modest, calm, conditions, laid).
  DERIVED. THE GIVEN ROWS OF THIS SEAT. 3 by the template 'for every input the law returns true; each argument reads behind the call as it read before'; 0 by the template 'total and deterministic' (their statements: YtdkknigicpbgcaaTotals.lean).
  GIVEN WITH THE SEED: the statements are not yours to turn. If you find one false, say at which input.
  Laid BY PROGRAM, IN A SANDBOX (cutbox-rows.mjs): the forced cells as the released guide's own fill.sh prints them over the translation 242cb73c9f95b645… (all of the seat's roots in one cut). By AI agents, Wed Nov 11 2026. No macro, syntax, notation, axiom, sorry.
-/
import Derived.Test.YtdkknigicpbgcaaChecked
import GoSem.Claim
import GoSem.ClaimJoined
import GoSem.ClaimMapViews
import Derived.JoinedTies
import Derived.KernelRfl
namespace Go.Proofs.Ytdkknigicpbgcaa
/- THE CELL 'sum', in the pinned program and in every row, IS THE sha256 OF THE DUMP (.gsa) THAT YtdkknigicpbgcaaProg.lean LOADS. Nothing in Lean hashes anything: it is a label: what it is worth is what the hold of that sum in a sandbox is worth. -/
noncomputable def Try.pinned : Pinned := { name := "ytdkknigicpbgcaa", sum := "242cb73c9f95b6455111fdf82b794a7c2a762490917aedae8b3f47bbb0d11882", checked := Try.checked }
namespace Rows
def none {H : Type} : Left H := { results := [], args := [] }

/-- 'ricksteadlaw5.BinsHalf': WHATEVER THE INPUT: true; the input reads as it did. -/
def binsHalfSpec : ChangeSpec := { name := "binsHalf", fn := fun _ => fun
  | [d1, d2] => { results := [.lit (.bool true)], args := [d1, d2] }
  | _ => none }
def binsHalfRow : OpenClaim := { program := "ytdkknigicpbgcaa", sum := "242cb73c9f95b6455111fdf82b794a7c2a762490917aedae8b3f47bbb0d11882", func := "rickstead/ricksteadlaw5.BinsHalf", spec := "binsHalf", unfollowed := true, recurses := true, apart := false }
def BinsHalfSaid : Prop := binsHalfRow.holds Try.pinned (OpenSpec.ofChange binsHalfSpec)

/-- ITS FALSE NEIGHBOUR: 'it returns false'. Refute it at one input. -/
def binsHalfWrong : ChangeSpec := { name := "binsHalf", fn := fun _ => fun
  | [d1, d2] => { results := [.lit (.bool false)], args := [d1, d2] }
  | _ => none }
def BinsHalfWrongFalsely : Prop := binsHalfRow.holds Try.pinned (OpenSpec.ofChange binsHalfWrong)

/-- 'ricksteadlaw5.BinsRoom': WHATEVER THE INPUT: true; the input reads as it did. -/
def binsRoomSpec : ChangeSpec := { name := "binsRoom", fn := fun _ => fun
  | [d1, d2, d3] => { results := [.lit (.bool true)], args := [d1, d2, d3] }
  | _ => none }
def binsRoomRow : OpenClaim := { program := "ytdkknigicpbgcaa", sum := "242cb73c9f95b6455111fdf82b794a7c2a762490917aedae8b3f47bbb0d11882", func := "rickstead/ricksteadlaw5.BinsRoom", spec := "binsRoom", unfollowed := true, recurses := true, apart := false }
def BinsRoomSaid : Prop := binsRoomRow.holds Try.pinned (OpenSpec.ofChange binsRoomSpec)

/-- ITS FALSE NEIGHBOUR: 'it returns false'. Refute it at one input. -/
def binsRoomWrong : ChangeSpec := { name := "binsRoom", fn := fun _ => fun
  | [d1, d2, d3] => { results := [.lit (.bool false)], args := [d1, d2, d3] }
  | _ => none }
def BinsRoomWrongFalsely : Prop := binsRoomRow.holds Try.pinned (OpenSpec.ofChange binsRoomWrong)

/-- 'ricksteadlaw5.BinsTwice': WHATEVER THE INPUT: true; the input reads as it did. -/
def binsTwiceSpec : ChangeSpec := { name := "binsTwice", fn := fun _ => fun
  | [d1, d2, d3] => { results := [.lit (.bool true)], args := [d1, d2, d3] }
  | _ => none }
def binsTwiceRow : OpenClaim := { program := "ytdkknigicpbgcaa", sum := "242cb73c9f95b6455111fdf82b794a7c2a762490917aedae8b3f47bbb0d11882", func := "rickstead/ricksteadlaw5.BinsTwice", spec := "binsTwice", unfollowed := true, recurses := true, apart := false }
def BinsTwiceSaid : Prop := binsTwiceRow.holds Try.pinned (OpenSpec.ofChange binsTwiceSpec)

/-- ITS FALSE NEIGHBOUR: 'it returns false'. Refute it at one input. -/
def binsTwiceWrong : ChangeSpec := { name := "binsTwice", fn := fun _ => fun
  | [d1, d2, d3] => { results := [.lit (.bool false)], args := [d1, d2, d3] }
  | _ => none }
def BinsTwiceWrongFalsely : Prop := binsTwiceRow.holds Try.pinned (OpenSpec.ofChange binsTwiceWrong)

/- THE SECOND FORM. 'bulk': how many values and letters a reading holds, each counted each time it is reached (what is shared counts as often as it is met; a slice's spare places count too). A statement '..UptoSaid' is the law's where the arguments, and the package variables that the reading takes, are together of bulk at most 1048576: NARROWER than '..Said'. Prove '..Said' where nothing that the law and all that it calls make is longer than what came in: it says more and counts as full. Else prove '..UptoSaid'. A law counts once. -/
mutual
def uptoBulk {H : Type} : DataW H → Nat
  | .lit (.string bytes) => bytes.length + 1
  | .lit _ => 1
  | .nil => 1
  | .ptr d => uptoBulk d + 1
  | .slice elems spare => uptoBulkAll elems + uptoBulkAll spare + 1
  | .agg parts => uptoBulkAll parts + 1
  | .iface _ d => uptoBulk d + 1
  | .map entries => uptoBulkEntries entries + 1
  | .held _ => 1
def uptoBulkAll {H : Type} : List (DataW H) → Nat
  | [] => 0
  | d :: r => uptoBulk d + uptoBulkAll r
def uptoBulkEntries {H : Type} : List (Lit × DataW H) → Nat
  | [] => 0
  | x :: r => uptoBulkEntry x + uptoBulkEntries r
def uptoBulkEntry {H : Type} : Lit × DataW H → Nat
  | (.string bytes, d) => bytes.length + uptoBulk d + 1
  | (_, d) => uptoBulk d + 1
 end
def uptoSmall : (H : Type) → List (DataW H) → Bool := fun _ ds => decide (uptoBulkAll ds ≤ 1048576)
def OpenSpec.upto (s : _root_.Go.ChangeSpec) : _root_.Go.OpenSpec := { _root_.Go.OpenSpec.ofChange s with cond := some uptoSmall }

/-- 'ricksteadlaw5.BinsHalf', WHERE WHAT IT READS IS OF BULK AT MOST 1048576: true; the input reads as it did. -/
def binsHalfUptoRow : OpenClaim := { program := "ytdkknigicpbgcaa", sum := "242cb73c9f95b6455111fdf82b794a7c2a762490917aedae8b3f47bbb0d11882", func := "rickstead/ricksteadlaw5.BinsHalf", spec := "binsHalf", unfollowed := true, recurses := true, apart := false, narrowed := true }
def BinsHalfUptoSaid : Prop := binsHalfUptoRow.holds Try.pinned (OpenSpec.upto binsHalfSpec)

/-- 'ricksteadlaw5.BinsRoom', WHERE WHAT IT READS IS OF BULK AT MOST 1048576: true; the input reads as it did. -/
def binsRoomUptoRow : OpenClaim := { program := "ytdkknigicpbgcaa", sum := "242cb73c9f95b6455111fdf82b794a7c2a762490917aedae8b3f47bbb0d11882", func := "rickstead/ricksteadlaw5.BinsRoom", spec := "binsRoom", unfollowed := true, recurses := true, apart := false, narrowed := true }
def BinsRoomUptoSaid : Prop := binsRoomUptoRow.holds Try.pinned (OpenSpec.upto binsRoomSpec)

/-- 'ricksteadlaw5.BinsTwice', WHERE WHAT IT READS IS OF BULK AT MOST 1048576: true; the input reads as it did. -/
def binsTwiceUptoRow : OpenClaim := { program := "ytdkknigicpbgcaa", sum := "242cb73c9f95b6455111fdf82b794a7c2a762490917aedae8b3f47bbb0d11882", func := "rickstead/ricksteadlaw5.BinsTwice", spec := "binsTwice", unfollowed := true, recurses := true, apart := false, narrowed := true }
def BinsTwiceUptoSaid : Prop := binsTwiceUptoRow.holds Try.pinned (OpenSpec.upto binsTwiceSpec)

end Rows
end Go.Proofs.Ytdkknigicpbgcaa
