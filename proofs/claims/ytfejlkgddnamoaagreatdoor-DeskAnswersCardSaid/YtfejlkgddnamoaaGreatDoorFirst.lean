/- PLAIN: the first of the least. -/
import Derived.Test.YtfejlkgddnamoaaGreatDoorBkOne
set_option linter.unusedVariables false
set_option linter.unusedSimpArgs false
namespace Go.Proofs.YtfejlkgddnamoaaGreatDoor
open SimPlain
/-- on the way: the first of the least among those below i -/
structure FirstAt (l : List Ev) (i k : Nat) : Prop where
  lt : k < l.length
  least : ∀ j, j < i → (l.getD k e0).t ≤ (l.getD j e0).t
  first : ∀ j, j < k → (l.getD k e0).t < (l.getD j e0).t
theorem FirstAt.full {l : List Ev} {k : Nat} (h : FirstAt l l.length k) : IsFirst l k := ⟨h.lt, h.least, h.first⟩
theorem FirstAt.new {l : List Ev} {i k : Nat} (h : FirstAt l i k) (hi : i < l.length) (hlt : (l.getD i e0).t < (l.getD k e0).t) : FirstAt l (i + 1) i := by
  refine ⟨hi, fun j hj => ?_, fun j hj => ?_⟩
  · rcases Nat.lt_or_ge j i with c | c
    · have := h.least j c; omega
    · obtain rfl : j = i := by omega
      exact Int.le_refl _
  · have := h.least j hj; omega
theorem FirstAt.old {l : List Ev} {i k : Nat} (h : FirstAt l i k) (hle : (l.getD k e0).t ≤ (l.getD i e0).t) : FirstAt l (i + 1) k := by
  refine ⟨h.lt, fun j hj => ?_, h.first⟩
  rcases Nat.lt_or_ge j i with c | c
  · exact h.least j c
  · obtain rfl : j = i := by omega
    exact hle
theorem first_same {l : List Ev} {k k' : Nat} (h : IsFirst l k) (h' : IsFirst l k') : k = k' := by
  rcases Nat.lt_trichotomy k k' with c | c | c
  · have := h'.first k c; have := h.least k' h'.lt; omega
  · exact c
  · have := h.first k' c; have := h'.least k h.lt; omega
theorem FirstAt.exists (l : List Ev) (h0 : 0 < l.length) : ∀ i, i ≤ l.length → ∃ k, FirstAt l i k := by
  intro i
  induction i with
  | zero => exact fun _ => ⟨0, h0, fun j h => by omega, fun j h => by omega⟩
  | succ i ih =>
    intro hi
    obtain ⟨k, hk⟩ := ih (by omega)
    rcases Int.lt_or_le (l.getD i e0).t (l.getD k e0).t with c | c
    · exact ⟨i, hk.new (by omega) c⟩
    · exact ⟨k, hk.old c⟩
theorem first_exists {l : List Ev} (h0 : 0 < l.length) : ∃ k, IsFirst l k := by
  obtain ⟨k, h⟩ := FirstAt.exists l h0 l.length (Nat.le_refl _)
  exact ⟨k, h.full⟩
end Go.Proofs.YtfejlkgddnamoaaGreatDoor
