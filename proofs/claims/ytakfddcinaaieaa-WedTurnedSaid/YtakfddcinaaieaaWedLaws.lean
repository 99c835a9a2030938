/- PLAIN AND WALKS: what Match tells as a list; at; the closed fact; the law WedStable. -/
import Derived.Test.YtakfddcinaaieaaWedMatch3
import Derived.Test.YtakfddcinaaieaaInts
namespace Go.Proofs.Ytakfddcinaaieaa
open Go Go.RowKit WedPlain

/-! ### plain -/
def mOf (A : List (List Int)) (asked : Nat → Nat) : List Int := (List.range A.length).map fun i => ((outOf (aOf A) asked i : Nat) : Int)
theorem mOf_length (A : List (List Int)) (asked : Nat → Nat) : (mOf A asked).length = A.length := by simp [mOf]
theorem mOf_getD (A : List (List Int)) (asked : Nat → Nat) (i : Nat) (h : i < A.length) : (mOf A asked).getD i 0 = (outOf (aOf A) asked i : Nat) := by
  unfold mOf
  rw [List.getD_eq_getElem?_getD, List.getElem?_map, List.getElem?_range h]; rfl
def mN (m : List Int) (i : Nat) : Nat := (m.getD i 0).toNat
theorem mN_cast {n : Nat} {m : List Int} (h : AllOf n m) {i : Nat} (hi : i < n) : m.getD i 0 = (mN m i : Nat) ∧ mN m i < n := by
  have := h.range _ (getD_memI (xs := m) (k := i) (by rw [h.len]; exact hi))
  unfold mN
  omega
theorem idx_at {n : Nat} {m : List Int} (h : AllOf n m) {k : Nat} (hk : k < n) : m.idxOf (k : Int) < n ∧ m.getD (m.idxOf (k : Int)) 0 = k := by
  have hmem := all_in h k hk
  have hlt := List.idxOf_lt_length_of_mem hmem
  refine ⟨by rw [h.len] at hlt; exact hlt, ?_⟩
  rw [List.getD_eq_getElem?_getD, List.getElem?_eq_getElem hlt]
  exact List.getElem_idxOf hlt
theorem at_idx {n : Nat} {m : List Int} (h : AllOf n m) {i k : Nat} (hi : i < n) (e : m.getD i 0 = (k : Int)) : m.idxOf (k : Int) = i := by
  have := plc_at h i k (by rw [h.len]; exact hi) e
  unfold plc at this
  omega
theorem all_inj {n : Nat} {m : List Int} (h : AllOf n m) {i j : Nat} (hi : i < n) (hj : j < n) (e : mN m i = mN m j) : i = j := by
  have h1 := (mN_cast h hi).1
  have h2 := (mN_cast h hj).1
  rw [← e] at h2
  rw [← at_idx h hi h1, ← at_idx h hj h2]
theorem stable_of {A B : List (List Int)} {m : List Int} (hm : AllOf A.length m) (h : ∀ i k, i < A.length → k < A.length → ¬ badP A B m i k) : Stable A.length (xOf A) (xOf B) (mN m) := by
  refine ⟨fun i hi => (mN_cast hm hi).2, fun i j hi hj e => all_inj hm hi hj e, fun i j hi hj ⟨h1, h2⟩ => ?_⟩
  refine h i (mN m j) hi (mN_cast hm hj).2 ?_
  have e := at_idx hm hj (mN_cast hm hj).1
  unfold badP
  rw [e, plc_xOf, plc_xOf, plc_xOf, plc_xOf]
  exact ⟨by exact_mod_cast h1, by exact_mod_cast h2⟩
theorem bad_of {A B : List (List Int)} {m : List Int} (hm : AllOf A.length m) (S : Stable A.length (xOf A) (xOf B) (mN m)) {i k : Nat} (hi : i < A.length) (hk : k < A.length) : ¬ badP A B m i k := by
  intro h
  obtain ⟨j1, j2⟩ := idx_at hm hk
  have e : mN m (m.idxOf (k : Int)) = k := by unfold mN; rw [j2]; simp
  unfold badP at h
  rw [plc_xOf, plc_xOf, plc_xOf, plc_xOf] at h
  refine S.none i (m.idxOf (k : Int)) hi j1 ⟨?_, ?_⟩
  · rw [e]; exact_mod_cast h.1
  · rw [e]; exact_mod_cast h.2
theorem mOf_mN (A : List (List Int)) (asked : Nat → Nat) {i : Nat} (h : i < A.length) : mN (mOf A asked) i = outOf (aOf A) asked i := by
  unfold mN
  rw [mOf_getD A asked i h]; simp
theorem mOf_all {A B : List (List Int)} {asked : Nat → Nat} {has : Nat → Int} (hf : FineW A B) (I : Inv A.length (aOf A) (xOf A) (xOf B) asked has []) : AllOf A.length (mOf A asked) := by
  have L := lists_of hf.a rfl
  have S := I.stable L
  refine ⟨mOf_length _ _, fun x hx => ?_, ?_⟩
  · obtain ⟨i, hi, rfl⟩ := List.mem_map.1 hx
    have := S.lt i (List.mem_range.1 hi)
    omega
  · rw [List.nodup_iff_pairwise_ne, mOf, List.pairwise_map]
    refine List.Pairwise.imp_of_mem ?_ (List.pairwise_lt_range (n := A.length))
    intro i j hi hj hij e
    have e' : outOf (aOf A) asked i = outOf (aOf A) asked j := by omega
    have := S.inj i j (List.mem_range.1 hi) (List.mem_range.1 hj) e'
    omega
theorem mOf_stable {A B : List (List Int)} {asked : Nat → Nat} {has : Nat → Int} (hf : FineW A B) (I : Inv A.length (aOf A) (xOf A) (xOf B) asked has []) : Stable A.length (xOf A) (xOf B) (mN (mOf A asked)) := by
  have S := I.stable (lists_of hf.a rfl)
  refine ⟨fun i hi => by rw [mOf_mN A asked hi]; exact S.lt i hi, fun i j hi hj e => ?_, fun i j hi hj => ?_⟩
  · rw [mOf_mN A asked hi, mOf_mN A asked hj] at e
    exact S.inj i j hi hj e
  · rw [mOf_mN A asked hi, mOf_mN A asked hj]
    exact S.none i j hi hj

/-! ### walks -/
/-- what Match tells -/
def MatchAll (A B : List (List Int)) (w : World) (e : Ending) (w' : World) : Prop :=
  ((FineW A B ∧ ∃ asked has g, Inv A.length (aOf A) (xOf A) (xOf B) asked has [] ∧ e = .returned (.tuple #[.slice (some ⟨g, 0, none⟩) A.length A.length, .nilIface]) ∧ Ints w' (some ⟨g, 0, none⟩) (mOf A asked) ∧ w.heap.size ≤ g) ∨
    (¬ FineW A B ∧ ∃ k : Int, k ≠ 0 ∧ e = .returned (.tuple #[.slice none 0 0, .iface 44 (.int .i64 k)]))) ∧ Below w.heap.size w w'
theorem Match_any (A B : List (List Int)) (a b : Option Addr) (cap cap' : Nat) (w : World) (hx : Mat w a A) (hy : Mat w b B) (hl : A.length ≤ 9223372036854775807) (hl' : B.length ≤ 9223372036854775807) :
    Calls Try.prog 5 #[.slice a A.length cap, .slice b B.length cap'] w fun e w' => MatchAll A B w e w' := by
  by_cases h : FineW A B
  · refine (Match_yes A B a b cap cap' w hx hy h).mono ?_
    rintro e w' ⟨asked, has, I, ⟨g, he, hg, hrow⟩, hb⟩
    refine ⟨.inl ⟨h, asked, has, g, I, he, .inr ⟨g, 0, rfl, fun i hi => ?_⟩, hg⟩, hb⟩
    rw [mOf_length] at hi
    rw [Nat.zero_add, hrow.cell hi, mOf_getD A asked i hi]
  · refine (Match_no A B a b cap cap' w hx hy hl hl' h).mono ?_
    rintro e w' ⟨⟨k, hk, he⟩, hb⟩
    exact ⟨.inr ⟨h, k, hk, he⟩, hb⟩

/-- at which place -/
theorem at_any (xs : List Int) (v : Int) (a : Option Addr) (cap : Nat) (w : World) (hx : Ints w a xs) (hl : xs.length ≤ 9223372036854775807) :
    Calls Try.prog 6 #[.slice a xs.length cap, .int .i64 v] w fun e w' => e = .returned (.int .i64 (xs.idxOf v : Nat)) ∧ w' = w := by
  go_enter Try.func6, Try.ntmps6
  go_wp2
  go_loop [5] (fun i => ∃ k : Nat, i = .int .i64 k ∧ k ≤ xs.length ∧ v ∉ xs.take k) (fun i => xs.length - (intOf i).toNat)
  case atStart => exact ⟨0, rfl, Nat.zero_le _, by simp⟩
  case round =>
    obtain ⟨k, rfl, hk, hn⟩ := hrel
    have Hn := Lib.hid hn
    clear hn
    rcases Nat.lt_or_ge k xs.length with hlt | hge
    · obtain ⟨b, o, rfl, hc⟩ := hx.open (by omega)
      have hck := hc k hlt
      clear hc
      generalize hu : xs.getD k 0 = u at hck
      have Hu := Lib.hid hu
      clear hu
      by_cases e : u = v
      · have E := Lib.hid e
        have eB : (u == v) = true := by rw [e]; simp
        clear e
        go_wp2
        go_ret
        refine ⟨ret_int ?_, rfl⟩
        have h1 : xs.getD k 0 = v := Hu.out.trans E.out
        rw [List.getD_eq_getElem?_getD, List.getElem?_eq_getElem hlt, Option.getD_some] at h1
        have h2 : xs = xs.take k ++ v :: xs.drop (k + 1) := by
          rw [← h1, ← List.drop_eq_getElem_cons hlt, List.take_append_drop]
        have h3 : xs.idxOf v = k := by
          rw [h2, List.idxOf_append, if_neg Hn.out, List.idxOf_cons_self]
          simp; omega
        rw [h3]
      · have eB : (u == v) = false := by rw [beq_eq_false_iff_ne]; exact e
        have E := Lib.hid e
        clear e
        go_wp2
        go_round
        case rel =>
          refine ⟨k + 1, by go_num, by omega, ?_⟩
          rw [take_snocI hlt, List.mem_append, List.mem_singleton]
          rintro (h | h)
          · exact Hn.out h
          · exact E.out (by rw [h, Hu.out])
        case measure => simp only [intOf]; omega
    · obtain rfl : xs.length = k := by omega
      have h3 : decide (xs.length < xs.length) = false := by simp
      go_wp2
      go_ret
      refine ⟨ret_int ?_, rfl⟩
      have h := Hn.out
      rw [List.take_length] at h
      rw [List.idxOf_eq_length h]

def fA : List (List Int) := [[0, 1], [0, 1]]
def fB : List (List Int) := [[1, 0], [0, 1]]
theorem f_fine : FineW fA fB := by
  have h1 : AllOf 2 [0, 1] := ⟨rfl, by decide, by decide⟩
  have h2 : AllOf 2 [1, 0] := ⟨rfl, by decide, by decide⟩
  refine ⟨by decide, rfl, fun i hi => ?_, fun i hi => ?_⟩
  · have hi : i < 2 := hi
    have : i = 0 ∨ i = 1 := by omega
    rcases this with rfl | rfl <;> exact h1
  · have hi : i < 2 := hi
    have : i = 0 ∨ i = 1 := by omega
    rcases this with rfl | rfl
    · exact h2
    · exact h1
theorem f_match {asked : Nat → Nat} {has : Nat → Int} (I : Inv fA.length (aOf fA) (xOf fA) (xOf fB) asked has []) : mOf fA asked = [1, 0] := by
  have S := I.stable (lists_of f_fine.a rfl)
  have h0 := S.lt 0 (by decide)
  have h1 := S.lt 1 (by decide)
  have hi := S.inj 0 1 (by decide) (by decide)
  have hn := S.none 1 0 (by decide) (by decide)
  have e : mOf fA asked = [((outOf (aOf fA) asked 0 : Nat) : Int), ((outOf (aOf fA) asked 1 : Nat) : Int)] := rfl
  rw [e]
  have h0' : outOf (aOf fA) asked 0 < 2 := h0
  have h1' : outOf (aOf fA) asked 1 < 2 := h1
  generalize outOf (aOf fA) asked 0 = p at *
  generalize outOf (aOf fA) asked 1 = q at *
  have hp : p = 0 ∨ p = 1 := by omega
  rcases hp with rfl | rfl
  · exfalso
    have hq : q = 1 := by
      have : q ≠ 0 := fun c => by have := hi c.symm; omega
      omega
    subst hq
    exact hn ⟨by decide, by decide⟩
  · have hq : q = 0 := by
      have : q ≠ 1 := fun c => by have := hi c.symm; omega
      omega
    subst hq
    rfl
end Go.Proofs.Ytakfddcinaaieaa
