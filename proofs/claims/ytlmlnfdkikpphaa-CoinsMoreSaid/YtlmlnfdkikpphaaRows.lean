/-
  No cell of these rows narrows 'for every input' (looked for: loops, veiled, ifaces, maps, wideKeys, modest, calm, conditions, laid).
  DERIVED. THE GIVEN ROWS OF THIS SEAT. 3 by the template 'for every input the law returns true; each argument reads behind the call as it read before'; 0 by the template 'total and deterministic' (their statements: YtlmlnfdkikpphaaTotals.lean).
  GIVEN WITH THE SEED: the statements are not yours to turn. If you find one false, say at which input.
  Laid BY PROGRAM, IN A SANDBOX (cutbox-rows.mjs): the forced cells as the released guide's own fill.sh prints them over the translation 383d6b876491e2fb… (all of the seat's roots in one cut). By AI agents, Wed Nov 11 2026. No macro, syntax, notation, axiom, sorry.
-/
import Derived.Test.YtlmlnfdkikpphaaChecked
import GoSem.Claim
import GoSem.ClaimJoined
import GoSem.ClaimMapViews
import Derived.JoinedTies
import Derived.KernelRfl
namespace Go.Proofs.Ytlmlnfdkikpphaa
/- THE CELL 'sum', in the pinned program and in every row, IS THE sha256 OF THE DUMP (.gsa) THAT YtlmlnfdkikpphaaProg.lean LOADS. Nothing in Lean hashes anything: it is a label: what it is worth is what the hold of that sum in a sandbox is worth. -/
noncomputable def Try.pinned : Pinned := { name := "ytlmlnfdkikpphaa", sum := "383d6b876491e2fb618de2af87d45fd22be52568e7fb83e0a85b45df0b935cc0", checked := Try.checked }
namespace Rows
def none {H : Type} : Left H := { results := [], args := [] }

/-- 'ricksteadlaw5.CoinsMore': WHATEVER THE INPUT: true; the input reads as it did. -/
def coinsMoreSpec : ChangeSpec := { name := "coinsMore", fn := fun _ => fun
  | [d1, d2, d3, d4] => { results := [.lit (.bool true)], args := [d1, d2, d3, d4] }
  | _ => none }
def coinsMoreRow : OpenClaim := { program := "ytlmlnfdkikpphaa", sum := "383d6b876491e2fb618de2af87d45fd22be52568e7fb83e0a85b45df0b935cc0", func := "rickstead/ricksteadlaw5.CoinsMore", spec := "coinsMore", apart := false }
def CoinsMoreSaid : Prop := coinsMoreRow.holds Try.pinned (OpenSpec.ofChange coinsMoreSpec)

/-- ITS FALSE NEIGHBOUR: 'it returns false'. Refute it at one input. -/
def coinsMoreWrong : ChangeSpec := { name := "coinsMore", fn := fun _ => fun
  | [d1, d2, d3, d4] => { results := [.lit (.bool false)], args := [d1, d2, d3, d4] }
  | _ => none }
def CoinsMoreWrongFalsely : Prop := coinsMoreRow.holds Try.pinned (OpenSpec.ofChange coinsMoreWrong)

/-- 'ricksteadlaw5.CoinsBest': WHATEVER THE INPUT: true; the input reads as it did. -/
def coinsBestSpec : ChangeSpec := { name := "coinsBest", fn := fun _ => fun
  | [d1, d2, d3] => { results := [.lit (.bool true)], args := [d1, d2, d3] }
  | _ => none }
def coinsBestRow : OpenClaim := { program := "ytlmlnfdkikpphaa", sum := "383d6b876491e2fb618de2af87d45fd22be52568e7fb83e0a85b45df0b935cc0", func := "rickstead/ricksteadlaw5.CoinsBest", spec := "coinsBest", apart := false }
def CoinsBestSaid : Prop := coinsBestRow.holds Try.pinned (OpenSpec.ofChange coinsBestSpec)

/-- ITS FALSE NEIGHBOUR: 'it returns false'. Refute it at one input. -/
def coinsBestWrong : ChangeSpec := { name := "coinsBest", fn := fun _ => fun
  | [d1, d2, d3] => { results := [.lit (.bool false)], args := [d1, d2, d3] }
  | _ => none }
def CoinsBestWrongFalsely : Prop := coinsBestRow.holds Try.pinned (OpenSpec.ofChange coinsBestWrong)

/-- 'ricksteadlaw5.CoinsAlways': WHATEVER THE INPUT: true; the input reads as it did. -/
def coinsAlwaysSpec : ChangeSpec := { name := "coinsAlways", fn := fun _ => fun
  | [d1, d2] => { results := [.lit (.bool true)], args := [d1, d2] }
  | _ => none }
def coinsAlwaysRow : OpenClaim := { program := "ytlmlnfdkikpphaa", sum := "383d6b876491e2fb618de2af87d45fd22be52568e7fb83e0a85b45df0b935cc0", func := "rickstead/ricksteadlaw5.CoinsAlways", spec := "coinsAlways", apart := false }
def CoinsAlwaysSaid : Prop := coinsAlwaysRow.holds Try.pinned (OpenSpec.ofChange coinsAlwaysSpec)

/-- ITS FALSE NEIGHBOUR: 'it returns false'. Refute it at one input. -/
def coinsAlwaysWrong : ChangeSpec := { name := "coinsAlways", fn := fun _ => fun
  | [d1, d2] => { results := [.lit (.bool false)], args := [d1, d2] }
  | _ => none }
def CoinsAlwaysWrongFalsely : Prop := coinsAlwaysRow.holds Try.pinned (OpenSpec.ofChange coinsAlwaysWrong)

/- THE SECOND FORM. 'bulk': how many values and letters a reading holds, each counted each time it is reached (what is shared counts as often as it is met; a slice's spare places count too). A statement '..UptoSaid' is the law's where the arguments, and the package variables that the reading takes, are together of bulk at most 1048576: NARROWER than '..Said'. Prove '..Said' where nothing that the law and all that it calls make is longer than what came in: it says more and counts as full. Else prove '..UptoSaid'. A law counts once. -/
mutual
def uptoBulk {H : Type} : DataW H → Nat
  | .lit (.string bytes) => bytes.length + 1
  | .lit _ => 1
  | .nil => 1
  | .ptr d => uptoBulk d + 1
  | .slice elems spare => uptoBulkAll elems + uptoBulkAll spare + 1
  | .agg parts => uptoBulkAll parts + 1
  | .iface _ d => uptoBulk d + 1
  | .map entries => uptoBulkEntries entries + 1
  | .held _ => 1
def uptoBulkAll {H : Type} : List (DataW H) → Nat
  | [] => 0
  | d :: r => uptoBulk d + uptoBulkAll r
def uptoBulkEntries {H : Type} : List (Lit × DataW H) → Nat
  | [] => 0
  | x :: r => uptoBulkEntry x + uptoBulkEntries r
def uptoBulkEntry {H : Type} : Lit × DataW H → Nat
  | (.string bytes, d) => bytes.length + uptoBulk d + 1
  | (_, d) => uptoBulk d + 1
 end
def uptoSmall : (H : Type) → List (DataW H) → Bool := fun _ ds => decide (uptoBulkAll ds ≤ 1048576)
def OpenSpec.upto (s : _root_.Go.ChangeSpec) : _root_.Go.OpenSpec := { _root_.Go.OpenSpec.ofChange s with cond := some uptoSmall }

/-- 'ricksteadlaw5.CoinsMore', WHERE WHAT IT READS IS OF BULK AT MOST 1048576: true; the input reads as it did. -/
def coinsMoreUptoRow : OpenClaim := { program := "ytlmlnfdkikpphaa", sum := "383d6b876491e2fb618de2af87d45fd22be52568e7fb83e0a85b45df0b935cc0", func := "rickstead/ricksteadlaw5.CoinsMore", spec := "coinsMore", apart := false, narrowed := true }
def CoinsMoreUptoSaid : Prop := coinsMoreUptoRow.holds Try.pinned (OpenSpec.upto coinsMoreSpec)

/-- 'ricksteadlaw5.CoinsBest', WHERE WHAT IT READS IS OF BULK AT MOST 1048576: true; the input reads as it did. -/
def coinsBestUptoRow : OpenClaim := { program := "ytlmlnfdkikpphaa", sum := "383d6b876491e2fb618de2af87d45fd22be52568e7fb83e0a85b45df0b935cc0", func := "rickstead/ricksteadlaw5.CoinsBest", spec := "coinsBest", apart := false, narrowed := true }
def CoinsBestUptoSaid : Prop := coinsBestUptoRow.holds Try.pinned (OpenSpec.upto coinsBestSpec)

/-- 'ricksteadlaw5.CoinsAlways', WHERE WHAT IT READS IS OF BULK AT MOST 1048576: true; the input reads as it did. -/
def coinsAlwaysUptoRow : OpenClaim := { program := "ytlmlnfdkikpphaa", sum := "383d6b876491e2fb618de2af87d45fd22be52568e7fb83e0a85b45df0b935cc0", func := "rickstead/ricksteadlaw5.CoinsAlways", spec := "coinsAlways", apart := false, narrowed := true }
def CoinsAlwaysUptoSaid : Prop := coinsAlwaysUptoRow.holds Try.pinned (OpenSpec.upto coinsAlwaysSpec)

end Rows
end Go.Proofs.Ytlmlnfdkikpphaa
