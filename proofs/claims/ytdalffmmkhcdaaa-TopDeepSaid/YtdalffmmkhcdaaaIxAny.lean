/- WALK: slices.symMergeCmpFunc of places by a closure, any merge. -/
import Derived.Test.YtdalffmmkhcdaaaIxMid
set_option linter.unusedVariables false
set_option linter.unusedSimpArgs false
namespace Go.Proofs.Ytdalffmmkhcdaaa
open Go SimPlain HeapPlain SymPlain

theorem sym_any (n : Nat) : SymAt n := by
  induction n with
  | zero => intro A U V Q g cap B w N a m b _ _ _ _ hu _ _ _ _ _ _ hn; omega
  | succ n ih =>
    intro A U V Q g cap B w N a m b hN ha hm hb hu hv hU hV hUV h100 hrow hn
    rcases Nat.lt_or_ge U.length 2 with h1 | h1
    · obtain ⟨u, rfl⟩ := List.length_eq_one_iff.1 (show U.length = 1 by omega)
      exact sym_left A u V Q g cap B w N a m b hN ha (by simpa using hm) hb hV (fun y hy => hUV u (by simp) y hy) h100 hrow
    · rcases Nat.lt_or_ge V.length 2 with h2 | h2
      · obtain ⟨v, rfl⟩ := List.length_eq_one_iff.1 (show V.length = 1 by omega)
        exact sym_right A U v Q g cap B w N a m b hN ha hm (by simpa using hb) h1 hU (fun y hy => hUV y hy v (by simp)) h100 hrow
      · exact sym_mid n ih A U V Q g cap B w N a m b hN ha hm hb h1 h2 hU hV hUV h100 hrow hn
end Go.Proofs.Ytdalffmmkhcdaaa
