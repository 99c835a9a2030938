/- PLAIN AND WALKS: what Match tells as a list; at; the closed fact; the law WedStable. -/
import Derived.Test.YtomgcfjdmoefgaaDoorWedMatch3
import Derived.Test.YtomgcfjdmoefgaaDoorInts
namespace Go.Proofs.YtomgcfjdmoefgaaDoor
open Go Go.RowKit WedPlain

/-! ### plain -/
def mOf (A : List (List Int)) (asked : Nat → Nat) : List Int := (List.range A.length).map fun i => ((outOf (aOf A) asked i : Nat) : Int)
theorem mOf_length (A : List (List Int)) (asked : Nat → Nat) : (mOf A asked).length = A.length := by simp [mOf]
theorem mOf_getD (A : List (List Int)) (asked : Nat → Nat) (i : Nat) (h : i < A.length) : (mOf A asked).getD i 0 = (outOf (aOf A) asked i : Nat) := by
  unfold mOf
  rw [List.getD_eq_getElem?_getD, List.getElem?_map, List.getElem?_range h]; rfl
def mN (m : List Int) (i : Nat) : Nat := (m.getD i 0).toNat
theorem mN_cast {n : Nat} {m : List Int} (h : AllOf n m) {i : Nat} (hi : i < n) : m.getD i 0 = (mN m i : Nat) ∧ mN m i < n := by
  have := h.range _ (getD_memI (xs := m) (k := i) (by rw [h.len]; exact hi))
  unfold mN
  omega
theorem idx_at {n : Nat} {m : List Int} (h : AllOf n m) {k : Nat} (hk : k < n) : m.idxOf (k : Int) < n ∧ m.getD (m.idxOf (k : Int)) 0 = k := by
  have hmem := all_in h k hk
  have hlt := List.idxOf_lt_length_of_mem hmem
  refine ⟨by rw [h.len] at hlt; exact hlt, ?_⟩
  rw [List.getD_eq_getElem?_getD, List.getElem?_eq_getElem hlt]
  exact List.getElem_idxOf hlt
theorem at_idx {n : Nat} {m : List Int} (h : AllOf n m) {i k : Nat} (hi : i < n) (e : m.getD i 0 = (k : Int)) : m.idxOf (k : Int) = i := by
  have := plc_at h i k (by rw [h.len]; exact hi) e
  unfold plc at this
  omega
theorem all_inj {n : Nat} {m : List Int} (h : AllOf n m) {i j : Nat} (hi : i < n) (hj : j < n) (e : mN m i = mN m j) : i = j := by
  have h1 := (mN_cast h hi).1
  have h2 := (mN_cast h hj).1
  rw [← e] at h2
  rw [← at_idx h hi h1, ← at_idx h hj h2]
theorem stable_of {A B : List (List Int)} {m : List Int} (hm : AllOf A.length m) (h : ∀ i k, i < A.length → k < A.length → ¬ badP A B m i k) : Stable A.length (xOf A) (xOf B) (mN m) := by
  refine ⟨fun i hi => (mN_cast hm hi).2, fun i j hi hj e => all_inj hm hi hj e, fun i j hi hj ⟨h1, h2⟩ => ?_⟩
  refine h i (mN m j) hi (mN_cast hm hj).2 ?_
  have e := at_idx hm hj (mN_cast hm hj).1
  unfold badP
  rw [e, plc_xOf, plc_xOf, plc_xOf, plc_xOf]
  exact ⟨by exact_mod_cast h1, by exact_mod_cast h2⟩
theorem bad_of {A B : List (List Int)} {m : List Int} (hm : AllOf A.length m) (S : Stable A.length (xOf A) (xOf B) (mN m)) {i k : Nat} (hi : i < A.length) (hk : k < A.length) : ¬ badP A B m i k := by
  intro h
  obtain ⟨j1, j2⟩ := idx_at hm hk
  have e : mN m (m.idxOf (k : Int)) = k := by unfold mN; rw [j2]; simp
  unfold badP at h
  rw [plc_xOf, plc_xOf, plc_xOf, plc_xOf] at h
  refine S.none i (m.idxOf (k : Int)) hi j1 ⟨?_, ?_⟩
  · rw [e]; exact_mod_cast h.1
  · rw [e]; exact_mod_cast h.2
theorem mOf_mN (A : List (List Int)) (asked : Nat → Nat) {i : Nat} (h : i < A.length) : mN (mOf A asked) i = outOf (aOf A) asked i := by
  unfold mN
  rw [mOf_getD A asked i h]; simp
theorem mOf_all {A B : List (List Int)} {asked : Nat → Nat} {has : Nat → Int} (hf : FineW A B) (I : Inv A.length (aOf A) (xOf A) (xOf B) asked has []) : AllOf A.length (mOf A asked) := by
  have L := lists_of hf.a rfl
  have S := I.stable L
  refine ⟨mOf_length _ _, fun x hx => ?_, ?_⟩
  · obtain ⟨i, hi, rfl⟩ := List.mem_map.1 hx
    have := S.lt i (List.mem_range.1 hi)
    omega
  · rw [List.nodup_iff_pairwise_ne, mOf, List.pairwise_map]
    refine List.Pairwise.imp_of_mem ?_ (List.pairwise_lt_range (n := A.length))
    intro i j hi hj hij e
    have e' : outOf (aOf A) asked i = outOf (aOf A) asked j := by omega
    have := S.inj i j (List.mem_range.1 hi) (List.mem_range.1 hj) e'
    omega
theorem mOf_stable {A B : List (List Int)} {asked : Nat → Nat} {has : Nat → Int} (hf : FineW A B) (I : Inv A.length (aOf A) (xOf A) (xOf B) asked has []) : Stable A.length (xOf A) (xOf B) (mN (mOf A asked)) := by
  have S := I.stable (lists_of hf.a rfl)
  refine ⟨fun i hi => by rw [mOf_mN A asked hi]; exact S.lt i hi, fun i j hi hj e => ?_, fun i j hi hj => ?_⟩
  · rw [mOf_mN A asked hi, mOf_mN A asked hj] at e
    exact S.inj i j hi hj e
  · rw [mOf_mN A asked hi, mOf_mN A asked hj]
    exact S.none i j hi hj

/-! ### walks -/
/-- what Match tells -/
def MatchAll (A B : List (List Int)) (w : World) (e : Ending) (w' : World) : Prop :=
  ((FineW A B ∧ ∃ asked has g, Inv A.length (aOf A) (xOf A) (xOf B) asked has [] ∧ e = .returned (.tuple #[.slice (some ⟨g, 0, none⟩) A.length A.length, .nilIface]) ∧ Ints w' (some ⟨g, 0, none⟩) (mOf A asked) ∧ w.heap.size ≤ g) ∨
    (¬ FineW A B ∧ ∃ k : Int, k ≠ 0 ∧ e = .returned (.tuple #[.slice none 0 0, .iface 81 (.int .i64 k)]))) ∧ Below w.heap.size w w'
theorem Match_any (A B : List (List Int)) (a b : Option Addr) (cap cap' : Nat) (w : World) (hx : Mat w a A) (hy : Mat w b B) (hl : A.length ≤ 9223372036854775807) (hl' : B.length ≤ 9223372036854775807) :
    Calls Tryd.prog 30 #[.slice a A.length cap, .slice b B.length cap'] w fun e w' => MatchAll A B w e w' := by
  by_cases h : FineW A B
  · refine (Match_yes A B a b cap cap' w hx hy h).mono ?_
    rintro e w' ⟨asked, has, I, ⟨g, he, hg, hrow⟩, hb⟩
    refine ⟨.inl ⟨h, asked, has, g, I, he, .inr ⟨g, 0, rfl, fun i hi => ?_⟩, hg⟩, hb⟩
    rw [mOf_length] at hi
    rw [Nat.zero_add, hrow.cell hi, mOf_getD A asked i hi]
  · refine (Match_no A B a b cap cap' w hx hy hl hl' h).mono ?_
    rintro e w' ⟨⟨k, hk, he⟩, hb⟩
    exact ⟨.inr ⟨h, k, hk, he⟩, hb⟩

end Go.Proofs.YtomgcfjdmoefgaaDoor
