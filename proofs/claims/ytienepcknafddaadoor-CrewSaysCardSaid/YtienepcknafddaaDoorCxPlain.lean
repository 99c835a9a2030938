/- PLAIN LAW: an item put in behind those that are not above it keeps a row sorted (no program in sight). -/
import Derived.Test.YtienepcknafddaaDoorM2
set_option linter.unusedVariables false
set_option linter.unusedSimpArgs false
namespace Go.Proofs.YtienepcknafddaaDoor
open Go SimPlain HeapPlain SymPlain

theorem take_snocE {l : List Ev} {k : Nat} (h : k < l.length) : l.take (k + 1) = l.take k ++ [l.getD k e0] := by
  rw [List.take_add_one, List.getD_eq_getElem?_getD, List.getElem?_eq_getElem h]
  rfl
theorem ins_perm {l D : List Ev} {k : Nat} (j : Nat) (h : k < l.length) (hp : D.Perm (l.take k)) : (D.take j ++ l.getD k e0 :: D.drop j).Perm (l.take (k + 1)) := by
  rw [take_snocE h]
  refine List.perm_middle.trans ?_
  rw [List.take_append_drop]
  exact (hp.cons _).trans (List.perm_append_singleton _ _).symm
theorem ins_sorted {l D : List Ev} {k j : Nat} (h : k < l.length) (hb : l.Pairwise Bef) (hp : D.Perm (l.take k)) (hs : D.Pairwise Lt) (hj : j ≤ D.length) (h1 : ∀ i, i < j → (D.getD i e0).t ≤ (l.getD k e0).t) (h2 : j < D.length → (l.getD k e0).t < (D.getD j e0).t) : (D.take j ++ l.getD k e0 :: D.drop j).Pairwise Lt := by
  have hx : l.getD k e0 = l[k] := by rw [List.getD_eq_getElem?_getD, List.getElem?_eq_getElem h]; rfl
  have hbef : ∀ y ∈ D, Bef y (l.getD k e0) := fun y hy => by
    have := hp.mem_iff.1 hy
    obtain ⟨i, hi, rfl⟩ := List.mem_iff_getElem.1 this
    rw [List.length_take] at hi
    rw [List.getElem_take, hx]
    exact List.pairwise_iff_getElem.1 hb i k (by omega) h (by omega)
  have up : ∀ y ∈ D.drop j, (l.getD k e0).t < y.t := fun y hy => by
    obtain ⟨m, hm, rfl⟩ := List.mem_iff_getElem.1 hy
    rw [List.length_drop] at hm
    have hjl : j < D.length := by omega
    have h3 := h2 hjl
    rw [List.getElem_drop]
    have e3 : D.getD j e0 = D[j] := by rw [List.getD_eq_getElem?_getD, List.getElem?_eq_getElem hjl]; rfl
    rw [e3] at h3
    rcases Nat.eq_zero_or_pos m with h0 | h0
    · subst h0; exact h3
    · have := List.pairwise_iff_getElem.1 hs j (j + m) hjl (by omega) (by omega)
      unfold Lt at this
      omega
  have dn : ∀ y ∈ D.take j, Lt y (l.getD k e0) := fun y hy => by
    have hB := hbef y (List.mem_of_mem_take hy)
    obtain ⟨i, hi, rfl⟩ := List.mem_iff_getElem.1 hy
    rw [List.length_take] at hi
    have h3 := h1 i (by omega)
    rw [List.getElem_take] at hB ⊢
    have e3 : D.getD i e0 = D[i] := by rw [List.getD_eq_getElem?_getD, List.getElem?_eq_getElem (by omega : i < D.length)]; rfl
    rw [e3] at h3
    unfold Lt
    unfold Bef at hB
    omega
  rw [List.pairwise_append]
  refine ⟨hs.sublist (List.take_sublist _ _), List.pairwise_cons.2 ⟨fun y hy => .inl (up y hy), hs.sublist (List.drop_sublist _ _)⟩, fun y hy z hz => ?_⟩
  rcases List.mem_cons.1 hz with rfl | hz
  · exact dn y hy
  · have h3 := dn y hy
    have h4 := up z hz
    unfold Lt at h3 ⊢
    omega
end Go.Proofs.YtienepcknafddaaDoor
