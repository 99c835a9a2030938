/- PLAIN LAW: a list has one sorted order (no program in sight). -/
import Derived.Test.YtalnepcbaegaeaaDoorBkStep
set_option linter.unusedVariables false
set_option linter.unusedSimpArgs false
namespace Go.Proofs.YtalnepcbaegaeaaDoor
open SimPlain
theorem sorted_unique : ∀ {l l' : List Ev}, l.Perm l' → l.Pairwise Lt → l'.Pairwise Lt → l = l'
  | [], l', h, _, _ => (List.nil_perm.1 h).symm ▸ rfl
  | x :: l, [], h, _, _ => absurd h.length_eq (by simp)
  | x :: l, y :: l', h, h1, h2 => by
    obtain ⟨e, p⟩ := least_unique h (List.pairwise_cons.1 h1).1 (List.pairwise_cons.1 h2).1
    rw [e, sorted_unique p (List.pairwise_cons.1 h1).2 (List.pairwise_cons.1 h2).2]
end Go.Proofs.YtalnepcbaegaeaaDoor
