/- PLAIN: two sides that came in, as WedPlain's lists. -/
import Derived.Test.YtomgcfjdmoefgaaDoorWedPlaces
namespace Go.Proofs.YtomgcfjdmoefgaaDoor
open WedPlain

def aOf (m : List (List Int)) (i t : Nat) : Nat := ((m.getD i []).getD t 0).toNat
def xOf (m : List (List Int)) (i k : Nat) : Nat := (m.getD i []).idxOf (k : Int)
theorem plc_xOf (m : List (List Int)) (i k : Nat) : plc (m.getD i []) k = (xOf m i k : Nat) := rfl
theorem aOf_cast {n : Nat} {m : List (List Int)} (h : Side n m) {i t : Nat} (hi : i < m.length) (ht : t < n) : (m.getD i []).getD t 0 = (aOf m i t : Nat) ∧ aOf m i t < n := by
  have hA := h i hi
  have := hA.range _ (getD_memI (xs := m.getD i []) (k := t) (by rw [hA.len]; exact ht))
  unfold aOf
  omega
theorem lists_of {n : Nat} {m : List (List Int)} (h : Side n m) (hm : m.length = n) : Lists n (aOf m) (xOf m) := by
  refine ⟨fun i t hi ht => (aOf_cast h (by omega) ht).2, fun i k hi hk => ?_, fun i t hi ht => ?_, fun i k hi hk => ?_⟩
  · have hA := h i (by omega)
    have := List.idxOf_lt_length_of_mem (all_in hA k hk)
    rw [hA.len] at this
    exact this
  · have hA := h i (by omega)
    have h1 := (aOf_cast h (i := i) (t := t) (by omega) ht).1
    have h2 := plc_at hA t (aOf m i t) (by rw [hA.len]; exact ht) h1
    rw [plc_xOf] at h2
    omega
  · have hA := h i (by omega)
    have hmem := all_in hA k hk
    have hlt := List.idxOf_lt_length_of_mem hmem
    have e : (m.getD i []).getD (xOf m i k) 0 = (k : Int) := by
      unfold xOf
      rw [List.getD_eq_getElem?_getD, List.getElem?_eq_getElem hlt]
      exact List.getElem_idxOf hlt
    unfold aOf
    rw [e]; simp
theorem xOf_inj {n : Nat} {m : List (List Int)} (h : Side n m) (hm : m.length = n) {k p q : Nat} (hk : k < n) (hp : p < n) (hq : q < n) (e : xOf m k p = xOf m k q) : p = q := by
  have L := lists_of h hm
  rw [← L.ax k p hk hp, ← L.ax k q hk hq, e]
theorem nodup_len {n : Nat} {free : List Nat} (h : free.Nodup) (hl : ∀ i ∈ free, i < n) : free.length ≤ n := by
  rcases Nat.lt_or_ge n free.length with h1 | h1
  · exfalso
    have hpw := List.pairwise_iff_getElem.1 h
    refine pigeon n (fun k => free.getD k 0) (fun k hk => ?_) (fun j k hj hk e => ?_)
    · show free.getD k 0 < n
      rw [List.getD_eq_getElem?_getD, List.getElem?_eq_getElem (by omega)]
      exact hl _ (List.getElem_mem _)
    · have e : free.getD j 0 = free.getD k 0 := e
      rw [List.getD_eq_getElem?_getD, List.getD_eq_getElem?_getD, List.getElem?_eq_getElem (by omega), List.getElem?_eq_getElem (by omega)] at e
      simp only [Option.getD_some] at e
      rcases Nat.lt_trichotomy j k with c | c | c
      · exact absurd e (hpw j k (by omega) (by omega) c)
      · exact c
      · exact absurd e.symm (hpw k j (by omega) (by omega) c)
  · exact h1
theorem pop_free {z : Int} {l l' : List Int} {free : List Nat} (h1 : (z :: l').Perm l) (h2 : l.Perm (free.map fun i : Nat => (i : Int))) : ∃ (i : Nat) (rest : List Nat), z = (i : Int) ∧ free.Perm (i :: rest) ∧ l'.Perm (rest.map fun i : Nat => (i : Int)) := by
  have hz : z ∈ free.map fun i : Nat => (i : Int) := (h1.trans h2).mem_iff.1 (by simp)
  obtain ⟨i, hi, rfl⟩ := List.mem_map.1 hz
  refine ⟨i, free.erase i, rfl, List.perm_cons_erase hi, ?_⟩
  have := (h1.trans h2).trans ((List.perm_cons_erase hi).map fun i : Nat => (i : Int))
  rw [List.map_cons] at this
  exact this.cons_inv
theorem push_free {l l' : List Int} {rest : List Nat} {j : Nat} (h : l'.Perm ((j : Int) :: l)) (h2 : l.Perm (rest.map fun i : Nat => (i : Int))) : l'.Perm ((j :: rest).map fun i : Nat => (i : Int)) := by
  rw [List.map_cons]; exact h.trans (List.Perm.cons _ h2)
theorem push_range {l l' : List Int} {k : Nat} (h : l'.Perm ((k : Int) :: l)) (h2 : l.Perm ((List.range k).map fun i : Nat => (i : Int))) : l'.Perm ((List.range (k + 1)).map fun i : Nat => (i : Int)) := by
  rw [List.range_succ, List.map_append]
  exact (h.trans (List.Perm.cons _ h2)).trans (List.perm_append_singleton _ _).symm
theorem full_of {n : Nat} {a x y : Nat → Nat → Nat} {asked : Nat → Nat} {has : Nat → Int} (I : Inv n a x y asked has []) (L : Lists n a x) {k : Nat} (hk : k < n) : ∃ i : Nat, i < n ∧ has k = (i : Int) ∧ outOf a asked i = k := by
  rcases I.one k hk with e | ⟨i, e, hi, _⟩
  · exfalso
    refine pigeon_miss n (fun i => outOf a asked i) k hk (fun i hi => ?_) (fun i j hi hj e2 => ?_)
    · have h := I.hold L hi
      refine ⟨h.2.1, fun c => ?_⟩
      have c : outOf a asked i = k := c
      have := h.2.2.1
      rw [c, e] at this; omega
    · have h1 := (I.hold L hi).2.2.1
      have h2 := (I.hold L hj).2.2.1
      have e2 : outOf a asked i = outOf a asked j := e2
      rw [e2] at h1; omega
  · exact ⟨i, hi, e, I.out hk e⟩
end Go.Proofs.YtomgcfjdmoefgaaDoor
