/- PLAIN LAW: where a merge in place cuts (no program in sight). -/
import Derived.Test.YtdalffmmkhcdaaaIxRight
set_option linter.unusedVariables false
set_option linter.unusedSimpArgs false
namespace Go.Proofs.Ytdalffmmkhcdaaa
open Go SimPlain HeapPlain SymPlain

/-- from where up to where the cut is looked for -/
def Bnds (a m b mid lo hi : Nat) : Prop := (mid < m ∧ lo + b = mid + m ∧ hi = mid) ∨ (m ≤ mid ∧ lo = a ∧ hi = m)
theorem Bnds.all {a m b mid lo hi : Nat} (h : Bnds a m b mid lo hi) (hmid : mid = (a + b) / 2) (h1 : a ≤ m) (h2 : m ≤ b) : a ≤ lo ∧ lo ≤ hi ∧ hi ≤ m ∧ hi ≤ mid ∧ mid + m ≤ lo + b := by
  rcases h with ⟨c1, c2, c3⟩ | ⟨c1, c2, c3⟩ <;> omega
theorem sym_split (A U V Q : List Ev) (a m b mid lo hi s en : Nat) (ha : a = A.length) (hm : m = a + U.length) (hb : b = m + V.length) (hmid : mid = (a + b) / 2) (hB : Bnds a m b mid lo hi) (hlo : lo ≤ s) (hhi : s ≤ hi) (hen : en + s = mid + m)
    (hU : U.Pairwise Lt) (hV : V.Pairwise Lt) (hUV : ∀ x ∈ U, ∀ y ∈ V, Bef x y)
    (hL : s = lo ∨ ((A ++ (U ++ (V ++ Q))).getD (s - 1) e0).t ≤ ((A ++ (U ++ (V ++ Q))).getD en e0).t) (hR : s = hi ∨ ((A ++ (U ++ (V ++ Q))).getD (en - 1) e0).t < ((A ++ (U ++ (V ++ Q))).getD s e0).t) :
    ∃ U1 U2 V1 V2, U = U1 ++ U2 ∧ V = V1 ++ V2 ∧ U1.length + a = s ∧ V1.length + m = en ∧ U1.length + V1.length + a = mid ∧ U2.length + mid = en ∧ (∀ x ∈ U1, ∀ y ∈ V2, Lt x y) ∧ (∀ x ∈ V1, ∀ y ∈ U2, Lt x y) := by
  obtain ⟨b1, b2, b3, b4, b5⟩ := hB.all hmid (by omega) (by omega)
  obtain ⟨U1, U2, rfl, hU1⟩ := cut_at U (s - a) (by omega)
  obtain ⟨V1, V2, rfl, hV1⟩ := cut_at V (en - m) (by rcases hB with ⟨c1, c2, c3⟩ | ⟨c1, c2, c3⟩ <;> omega)
  have lu : (U1 ++ U2).length = U1.length + U2.length := List.length_append
  have lv : (V1 ++ V2).length = V1.length + V2.length := List.length_append
  have e1 : U1.length + a = s := by omega
  have e2 : V1.length + m = en := by omega
  refine ⟨U1, U2, V1, V2, rfl, rfl, e1, e2, by omega, by omega, ?_, ?_⟩
  · refine cross (R := Lt) lt_trans hU hV fun C x y D hC hD => ?_
    have hx : (A ++ ((U1 ++ U2) ++ ((V1 ++ V2) ++ Q))).getD (s - 1) e0 = x := by
      have := getD_mid e0 (A ++ C) x (U2 ++ ((V1 ++ V2) ++ Q)) (i := s - 1) (by rw [hC] at e1; simp only [List.length_append, List.length_cons, List.length_nil] at e1 ⊢; omega)
      rw [hC]; simpa using this
    have hy : (A ++ ((U1 ++ U2) ++ ((V1 ++ V2) ++ Q))).getD en e0 = y := by
      have := getD_mid e0 (A ++ (U1 ++ U2) ++ V1) y (D ++ Q) (i := en) (by simp only [List.length_append] at hm ⊢; omega)
      rw [hD]; simpa using this
    have hbef : Bef x y := hUV x (by rw [hC]; simp) y (by rw [hD]; simp)
    rcases hL with h | h
    · exfalso
      have h1 : 0 < U1.length := by rw [hC]; simp
      have h2 : 0 < V2.length := by rw [hD]; simp
      rcases hB with ⟨c1, c2, c3⟩ | ⟨c1, c2, c3⟩ <;> omega
    · rw [hx, hy] at h
      exact lt_of_not (Int.not_lt.2 h) hbef
  · refine cross (R := Lt) lt_trans hV hU fun C x y D hC hD => ?_
    have hx : (A ++ ((U1 ++ U2) ++ ((V1 ++ V2) ++ Q))).getD (en - 1) e0 = x := by
      have := getD_mid e0 (A ++ (U1 ++ U2) ++ C) x (V2 ++ Q) (i := en - 1) (by rw [hC] at e2; simp only [List.length_append, List.length_cons, List.length_nil] at hm e2 ⊢; omega)
      rw [hC]; simpa using this
    have hy : (A ++ ((U1 ++ U2) ++ ((V1 ++ V2) ++ Q))).getD s e0 = y := by
      have := getD_mid e0 (A ++ U1) y (D ++ ((V1 ++ V2) ++ Q)) (i := s) (by simp only [List.length_append]; omega)
      rw [hD]; simpa using this
    rcases hR with h | h
    · exfalso
      have h1 : 0 < V1.length := by rw [hC]; simp
      have h2 : 0 < U2.length := by rw [hD]; simp
      rcases hB with ⟨c1, c2, c3⟩ | ⟨c1, c2, c3⟩ <;> omega
    · rw [hx, hy] at h
      exact lt_of_less h
end Go.Proofs.Ytdalffmmkhcdaaa
