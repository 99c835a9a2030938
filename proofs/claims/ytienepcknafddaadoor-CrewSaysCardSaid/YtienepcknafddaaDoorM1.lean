/-  · WALK: core.Within[int]. · PLAIN LAW: a heap in a list (no program in sight). · PLAIN LAW: events by their times (no program in sight). · PLAIN LAW: two sorted stretches merged in place; one placed among many; an exchange (no program in sight). · WALKS: items: rows, order.Check (printed by a program of our own out of our book texts). -/
import Derived.WalkKit
import Derived.WalkSpells
import Derived.WalkLawsBesides
import Derived.Lib.Hide
import Derived.Deep.QuietTactic
import Derived.BigQuiet
import Derived.Deep.LoopGhost
import Derived.Deep.DeepCutAuto
import Derived.Test.YtienepcknafddaaDoorRows
import Derived.Laws.Cover3
import Derived.Laws.AppendOwnNone
import Derived.Laws.StructEq
import Derived.OwnWalk
import Derived.Maps.AppendAt
import Derived.Deep.MidRow
import Derived.BigRegion
import Derived.StillTailTactics
import Derived.Laws.EntriesVeiled
import Derived.Deep.RegionHeld3
import Derived.Deep.AppendLies
section
set_option linter.unusedVariables false
set_option linter.unusedSimpArgs false
namespace Go.Proofs.YtienepcknafddaaDoor
open Go Go.RowKit

/-- THE SLICE AT `a` READS AS THE NUMBERS `xs` -/
def Ints (w : World) (a : Option Addr) (xs : List Int) : Prop :=
  xs = [] ∨ ∃ b off, a = some ⟨b, off, none⟩ ∧ ∀ i, i < xs.length → w.cell? ⟨b, off + i, none⟩ = some (.int .i64 (xs.getD i 0))

theorem Ints.below {w w' : World} {a : Option Addr} {xs : List Int} (h : Ints w a xs) (hb : Below w.heap.size w w') : Ints w' a xs := by
  rcases h with rfl | ⟨b, off, rfl, h⟩
  · exact .inl rfl
  · refine .inr ⟨b, off, rfl, fun i hi => ?_⟩
    have := h i hi
    rw [hb.cell (p := ⟨b, off + i, none⟩) (World.block_lt_of_cell? w _ this)]
    exact this
theorem Ints.open {w : World} {a : Option Addr} {xs : List Int} (h : Ints w a xs) (hne : 0 < xs.length) :
    ∃ b off, a = some ⟨b, off, none⟩ ∧ ∀ i, i < xs.length → w.cell? ⟨b, off + i, none⟩ = some (.int .i64 (xs.getD i 0)) := by
  rcases h with rfl | h
  · simp at hne
  · exact h

/-- a whole block of numbers -/
def Row (w : World) (g : Nat) (E : TypeId) (xs : List Int) : Prop := w.heap[g]? = some (.cells (xs.map (Value.int .i64)).toArray E (0, 0))
theorem Row.cell {w : World} {g : Nat} {E : TypeId} {xs : List Int} (h : Row w g E xs) (i : Nat) (hi : i < xs.length) : w.cell? ⟨g, i, none⟩ = some (.int .i64 (xs.getD i 0)) := by
  have h' : w.heap[g]? = _ := h
  simp [World.cell?, h', List.getElem?_eq_getElem hi]
theorem Row.free {w : World} {g : Nat} {E : TypeId} {xs : List Int} (h : Row w g E xs) (i : Nat) : w.frozen? ⟨g, i, none⟩ = false := by
  have h' : w.heap[g]? = _ := h
  simp [World.frozen?, h']
theorem Row.lt {w : World} {g : Nat} {E : TypeId} {xs : List Int} (h : Row w g E xs) : g < w.heap.size := lt_of_block h
theorem Row.set {w : World} {g : Nat} {E : TypeId} {xs : List Int} (h : Row w g E xs) (i : Nat) (v : Int) : Row (w.setCell ⟨g, i, none⟩ (.int .i64 v)) g E (xs.set i v) := by
  unfold Row
  rw [heap_setCell_same w g i _ E _ h]
  simp [List.map_set]
theorem Row.other {w : World} {g : Nat} {E : TypeId} {xs : List Int} (h : Row w g E xs) (a : Addr) (ha : g ≠ a.block) (v : Value) : Row (w.setCell a v) g E xs := by
  unfold Row
  rw [heap_setCell_other w a g v ha]; exact h
theorem Row.alloc {w : World} {g : Nat} {E : TypeId} {xs : List Int} (h : Row w g E xs) (o : Obj) : Row (w.alloc o) g E xs := by
  unfold Row
  rw [Below.heap_alloc w o g h.lt]; exact h
theorem Row.drew {w : World} {g : Nat} {E : TypeId} {xs : List Int} (h : Row w g E xs) : Row w.drew g E xs := h
theorem Row.drewN {w : World} {g : Nat} {E : TypeId} {xs : List Int} (h : Row w g E xs) (n : Nat) : Row (w.drewN n) g E xs := h
theorem Ints.drewN {w : World} {a : Option Addr} {xs : List Int} (h : Ints w a xs) (n : Nat) : Ints (w.drewN n) a xs := h
theorem drewN_below {B : Nat} {a w : World} (h : Below B a w) (n : Nat) : Below B a (w.drewN n) := ⟨h.os, h.tape, h.output, h.size, h.block⟩
theorem Row.below {w w' : World} {g : Nat} {E : TypeId} {xs : List Int} {B : Nat} (h : Row w g E xs) (hb : Below B w w') (hg : g < B) : Row w' g E xs := (hb.block g hg).trans h
theorem Row.ints {w : World} {g : Nat} {E : TypeId} {xs : List Int} (h : Row w g E xs) : Ints w (some ⟨g, 0, none⟩) xs :=
  .inr ⟨g, 0, rfl, fun i hi => by rw [Nat.zero_add]; exact h.cell i hi⟩
theorem Row.made (w : World) (E : TypeId) (n : Nat) : Row (w.alloc (.cells (madeCells #[.int .i64 0] n) E)) w.heap.size E (List.replicate n 0) := by
  unfold Row
  rw [heap_alloc_new]
  congr 2
  apply Array.ext
  · simp [madeCells]
  · intro i h1 h2; simp [madeCells, Nat.mod_one]

/-- a slice of the call's own reads as numbers -/
theorem owns_ints {w : World} {base : Nat} {E : TypeId} {v : Value} {n : Nat} {xs : List Int} (h : w.ownsRow base E 1 v n (xs.map (Value.int .i64))) (h0 : 0 < xs.length) :
    ∃ g cap, v = .slice (some ⟨g, 0, none⟩) xs.length cap ∧ base ≤ g ∧ g < w.heap.size ∧ Ints w (some ⟨g, 0, none⟩) xs := by
  obtain ⟨hl, h⟩ := h
  have hn : n = xs.length := by simpa using hl.symm
  subst hn
  rcases h with ⟨rfl, h⟩ | ⟨g, cap, cur, rfl, hb, hg, hc, hm, hs, ht⟩
  · omega
  · refine ⟨g, cap, rfl, hb, lt_of_block hg, .inr ⟨g, 0, rfl, fun i hi => ?_⟩⟩
    rw [Nat.zero_add, cell_of_row w g i cur E (0, 0) hg]
    have : (cur.toList.take (xs.length * 1))[i]? = (xs.map (Value.int .i64))[i]? := by rw [ht]
    rw [List.getElem?_take_of_lt (by omega)] at this
    rw [← Array.getElem?_toList, this, List.getElem?_map, List.getElem?_eq_getElem hi, List.getD_eq_getElem?_getD, List.getElem?_eq_getElem hi]
    rfl
theorem Ints.cellsAt {w : World} {b off : Nat} {xs : List Int} (h : ∀ i, i < xs.length → w.cell? ⟨b, off + i, none⟩ = some (.int .i64 (xs.getD i 0))) :
    ∀ j u, (xs.map (Value.int .i64))[j]? = some u → w.cell? ((⟨b, off, none⟩ : Addr).add j) = some u := by
  intro j u hu
  rw [List.getElem?_map] at hu
  by_cases hj : j < xs.length
  · rw [List.getElem?_eq_getElem hj] at hu
    have hc := h j hj
    rw [List.getD_eq_getElem?_getD, List.getElem?_eq_getElem hj] at hc
    have e : (⟨b, off, none⟩ : Addr).add j = ⟨b, off + j, none⟩ := by unfold Addr.add; split <;> simp_all
    rw [e, hc]
    simpa using hu
  · rw [List.getElem?_eq_none (by omega)] at hu; simp at hu
theorem oneCells (xs : List Int) : ∀ u ∈ xs.map (Value.int .i64), u.oneCell' = true := by
  intro u hu
  obtain ⟨x, _, rfl⟩ := List.mem_map.1 hu
  rfl

/-- of a slice of integers that came in: what it reads as -/
theorem row_ints {w : World} {a : Option Addr} {len cap : Nat} {zs : List Int} (h : (a = none ∧ len = 0 ∧ cap = 0 ∧ zs = []) ∨
    ∃ x, a = some x ∧ len ≤ cap ∧ cap ≤ maxLen ∧ zs.length = cap ∧ (∀ i, i < zs.length → w.cell? (x.add i) = some (.int .i64 (zs.getD i 0))) ∧ ∀ n ∈ zs, (Lit.int .i64 n).wf = true) :
    ∃ xs : List Int, len = xs.length ∧ Ints w a xs ∧ xs.length ≤ 9223372036854775807 ∧ ∀ n ∈ xs, -9223372036854775808 ≤ n ∧ n ≤ 9223372036854775807 := by
  rcases h with ⟨rfl, rfl, rfl, rfl⟩ | ⟨x, rfl, hl, hm, hz, hcell, hwf⟩
  · exact ⟨[], rfl, .inl rfl, by simp, by simp⟩
  · unfold maxLen at hm
    refine ⟨zs.take len, by simp; omega, ?_, by simp; omega, fun n hn => ?_⟩
    · by_cases h0 : len = 0
      · subst h0; exact .inl rfl
      · obtain ⟨b, off, spot⟩ := x
        have h0' := hcell 0 (by omega)
        have hsp : spot = none := by simpa [Addr.add] using World.cell?_spot h0'
        subst hsp
        refine .inr ⟨b, off, rfl, fun i hi => ?_⟩
        have hi' : i < len := by simp at hi; omega
        have hc := hcell i (by omega)
        have e : (⟨b, off, none⟩ : Addr).add i = ⟨b, off + i, none⟩ := by unfold Addr.add; split <;> simp_all
        rw [e] at hc
        rw [hc, List.getD_eq_getElem?_getD, List.getD_eq_getElem?_getD, List.getElem?_take_of_lt hi']
    · have := hwf n (List.mem_of_mem_take hn)
      simp [Lit.wf, IntKind.min, IntKind.max, IntKind.signed, IntKind.bits] at this
      omega

theorem emod_le_self (s v : Int) (h0 : 0 ≤ s) (h : 0 < v) : s % v ≤ s := by
  have a := Int.emod_add_mul_ediv s v
  have b := Int.mul_nonneg (show 0 ≤ v by omega) (Int.ediv_nonneg h0 (show 0 ≤ v by omega))
  omega

theorem ret_int {k : IntKind} {a b : Int} (h : a = b) : Ending.returned (.int k a) = .returned (.int k b) := by rw [h]
theorem ret_bool {a b : Bool} (h : a = b) : Ending.returned (.bool a) = .returned (.bool b) := by rw [h]
end Go.Proofs.YtienepcknafddaaDoor
end

section
set_option linter.unusedVariables false
set_option linter.unusedSimpArgs false
namespace Go.Proofs.YtienepcknafddaaDoor
open Go Go.RowKit

theorem within_any (n lo hi : Int) (w : World) : Calls Tryd.prog 11 #[.int .i64 n, .int .i64 lo, .int .i64 hi] w fun e w' => e = .returned (.bool (decide (lo ≤ n) && decide (n ≤ hi))) ∧ w = w' := by
  by_cases h1 : lo ≤ n
  · go_enter Tryd.func11, Tryd.ntmps11
    go_wp2
    go_ret
    exact ⟨ret_bool (by simp [h1]), rfl⟩
  · go_enter Tryd.func11, Tryd.ntmps11
    go_wp2
    go_ret
    exact ⟨ret_bool (by simp; omega), rfl⟩
theorem within_yes (n lo hi : Int) (h1 : lo ≤ n) (h2 : n ≤ hi) (w : World) : Calls Tryd.prog 11 #[.int .i64 n, .int .i64 lo, .int .i64 hi] w fun e w' => e = .returned (.bool true) ∧ w = w' :=
  (within_any n lo hi w).mono fun _ _ ⟨he, hw⟩ => ⟨by rw [he]; simp [h1, h2], hw⟩
theorem within_no (n lo hi : Int) (h : n < lo ∨ hi < n) (w : World) : Calls Tryd.prog 11 #[.int .i64 n, .int .i64 lo, .int .i64 hi] w fun e w' => e = .returned (.bool false) ∧ w = w' :=
  (within_any n lo hi w).mono fun _ _ ⟨he, hw⟩ => ⟨by rw [he]; rcases h with h | h <;> simp <;> omega, hw⟩

/-- an error of package api: 0 is none -/
def errV (T : TypeId) (n : Int) : Value := if n = 0 then .nilIface else .iface T (.int .i64 n)
theorem errV_ok (T : TypeId) : errV T 0 = .nilIface := rfl
theorem errV_bad {T : TypeId} {n : Int} (h : n ≠ 0) : errV T n = .iface T (.int .i64 n) := by unfold errV; rw [if_neg h]
end Go.Proofs.YtienepcknafddaaDoor
end

section
set_option linter.unusedVariables false
set_option linter.unusedSimpArgs false
namespace HeapPlain

/-- an order, of which two may stand at one place -/
structure Order {α : Type} (lt : α → α → Prop) : Prop where
  asym : ∀ a b, lt a b → ¬ lt b a
  ntrans : ∀ a b c, ¬ lt b a → ¬ lt c b → ¬ lt c a

variable {α : Type} {lt : α → α → Prop} (d : α)

def swapL (l : List α) (i j : Nat) : List α := (l.set i (l.getD j d)).set j (l.getD i d)
theorem swapL_length (l : List α) (i j : Nat) : (swapL d l i j).length = l.length := by simp [swapL]
theorem getD_lt (l : List α) (i : Nat) (h : i < l.length) : l.getD i d = l[i] := by simp [List.getD_eq_getElem?_getD, h]
theorem getD_set (l : List α) (i k : Nat) (a : α) (h : i < l.length) : (l.set i a).getD k d = if k = i then a else l.getD k d := by
  rw [List.getD_eq_getElem?_getD, List.getElem?_set, List.getD_eq_getElem?_getD]
  by_cases e : k = i
  · subst e; simp [h]
  · rw [if_neg (fun e' => e e'.symm), if_neg e]
theorem getD_swap (l : List α) (i j k : Nat) (hi : i < l.length) (hj : j < l.length) : (swapL d l i j).getD k d = if k = j then l.getD i d else if k = i then l.getD j d else l.getD k d := by
  unfold swapL
  rw [getD_set d _ j k _ (by simpa using hj), getD_set d _ i k _ hi]
theorem perm_swap [DecidableEq α] (l : List α) (i j : Nat) (hi : i < l.length) (hj : j < l.length) : (swapL d l i j).Perm l := by
  rw [List.perm_iff_count]
  intro b
  unfold swapL
  rw [getD_lt d l i hi, getD_lt d l j hj]
  rw [List.count_set (h := by simpa using hj), List.count_set (h := hi)]
  have h1 := List.boole_getElem_le_count (a := b) (h := hi)
  by_cases e : i = j
  · subst e
    simp only [List.getElem_set_self]
    omega
  · rw [List.getElem_set_ne (by omega)]
    omega

def Heap (lt : α → α → Prop) (l : List α) : Prop := ∀ k, 0 < k → k < l.length → ¬ lt (l.getD k d) (l.getD ((k - 1) / 2) d)

theorem heap_min (O : Order lt) {l : List α} (h : Heap d lt l) : ∀ k, k < l.length → ¬ lt (l.getD k d) (l.getD 0 d) := by
  intro k
  induction k using Nat.strongRecOn with
  | ind k ih =>
    intro hk
    rcases Nat.eq_zero_or_pos k with rfl | h0
    · exact fun c => O.asym _ _ c c
    · exact O.ntrans _ _ _ (ih ((k - 1) / 2) (by omega) (by omega)) (h k h0 hk)

/-! ### up -/
structure Up (lt : α → α → Prop) (l : List α) (i : Nat) : Prop where
  at_ : i < l.length
  else_ : ∀ k, 0 < k → k < l.length → k ≠ i → ¬ lt (l.getD k d) (l.getD ((k - 1) / 2) d)
  over : 0 < i → ∀ c, 0 < c → c < l.length → (c - 1) / 2 = i → ¬ lt (l.getD c d) (l.getD ((i - 1) / 2) d)
theorem Up.start {l : List α} (x : α) (h : Heap d lt l) : Up d lt (l ++ [x]) l.length := by
  refine ⟨by simp, fun k h0 hk hne => ?_, fun h0 c hc hl he => ?_⟩
  · rw [List.length_append, List.length_singleton] at hk
    have := h k h0 (by omega)
    simp only [List.getD_eq_getElem?_getD] at this ⊢
    rw [List.getElem?_append_left (by omega), List.getElem?_append_left (by omega)]; exact this
  · rw [List.length_append, List.length_singleton] at hl; omega
theorem Up.done {l : List α} {i : Nat} (h : Up d lt l i) (hi : i = 0 ∨ ¬ lt (l.getD i d) (l.getD ((i - 1) / 2) d)) : Heap d lt l := by
  intro k h0 hk
  by_cases e : k = i
  · subst e
    rcases hi with rfl | hi
    · omega
    · exact hi
  · exact h.else_ k h0 hk e
theorem Up.step (O : Order lt) {l : List α} {i : Nat} (h : Up d lt l i) (h0 : 0 < i) (hlt : lt (l.getD i d) (l.getD ((i - 1) / 2) d)) : Up d lt (swapL d l i ((i - 1) / 2)) ((i - 1) / 2) := by
  have hi := h.at_
  have hp : (i - 1) / 2 < l.length := by omega
  have hne : (i - 1) / 2 ≠ i := by omega
  have irr : ∀ a, ¬ lt a a := fun a c => O.asym _ _ c c
  refine ⟨by rw [swapL_length]; exact hp, fun k hk0 hk hkp => ?_, fun hp0 c hc0 hc he => ?_⟩
  · rw [swapL_length] at hk
    rw [getD_swap d l i _ k hi hp, getD_swap d l i _ _ hi hp, if_neg hkp]
    by_cases e : k = i
    · subst e
      rw [if_pos rfl, if_pos rfl]
      exact O.asym _ _ hlt
    · rw [if_neg e]
      by_cases e1 : (k - 1) / 2 = (i - 1) / 2
      · rw [if_pos e1]
        have := h.else_ k hk0 hk e
        rw [e1] at this
        exact O.ntrans _ _ _ (O.asym _ _ hlt) this
      · rw [if_neg e1]
        by_cases e2 : (k - 1) / 2 = i
        · rw [if_pos e2]
          exact h.over h0 k hk0 hk e2
        · rw [if_neg e2]
          exact h.else_ k hk0 hk e
  · rw [swapL_length] at hc
    have n1 : ((i - 1) / 2 - 1) / 2 ≠ (i - 1) / 2 := by omega
    have n2 : ((i - 1) / 2 - 1) / 2 ≠ i := by omega
    rw [getD_swap d l i _ c hi hp, getD_swap d l i _ _ hi hp, if_neg n1, if_neg n2, if_neg (by omega)]
    have hpp := h.else_ ((i - 1) / 2) hp0 hp hne
    by_cases e : c = i
    · rw [if_pos e]; exact hpp
    · rw [if_neg e]
      have := h.else_ c hc0 hc e
      rw [he] at this
      exact O.ntrans _ _ _ hpp this

/-! ### down -/
structure Dn (lt : α → α → Prop) (l : List α) (i : Nat) : Prop where
  else_ : ∀ k, 0 < k → k < l.length → (k - 1) / 2 ≠ i → ¬ lt (l.getD k d) (l.getD ((k - 1) / 2) d)
  over : 0 < i → ∀ c, 0 < c → c < l.length → (c - 1) / 2 = i → ¬ lt (l.getD c d) (l.getD ((i - 1) / 2) d)
theorem Dn.start {l : List α} {n : Nat} (hn : l.length = n + 1) (h : Heap d lt l) : Dn d lt ((l.set 0 (l.getD n d)).take n) 0 := by
  refine ⟨fun k h0 hk hp => ?_, fun h0 => by omega⟩
  have hk' : k < n := by simp at hk; omega
  have e : ∀ j, 0 < j → j < n → ((l.set 0 (l.getD n d)).take n).getD j d = l.getD j d := fun j j0 jn => by
    rw [List.getD_eq_getElem?_getD, List.getElem?_take_of_lt jn, List.getElem?_set_ne (by omega), List.getD_eq_getElem?_getD]
  rw [e k h0 hk', e _ (by omega) (by omega)]
  exact h k h0 (by omega)
theorem Dn.perm {l : List α} {n : Nat} (hn : l.length = n + 1) : (l.getD 0 d :: (l.set 0 (l.getD n d)).take n).Perm l := by
  obtain ⟨x, m, rfl⟩ : ∃ x m, l = x :: m := by
    cases l with
    | nil => simp at hn
    | cons x m => exact ⟨x, m, rfl⟩
  have hm : m.length = n := by simpa using hn
  cases n with
  | zero =>
    have : m = [] := List.eq_nil_of_length_eq_zero hm
    subst this
    simp
  | succ n =>
    have hd : ∃ a z, m = a ++ [z] := ⟨m.dropLast, m.getLast (by intro e; rw [e] at hm; simp at hm), (List.dropLast_concat_getLast _).symm⟩
    obtain ⟨a, z, rfl⟩ := hd
    have ha : a.length = n := by simpa using hm
    have e1 : (x :: (a ++ [z])).getD (n + 1) d = z := by
      rw [List.getD_eq_getElem?_getD, List.getElem?_cons_succ, List.getElem?_append_right (by omega), ha]; simp
    rw [e1]
    simp only [List.set_cons_zero, List.take_succ_cons]
    rw [List.take_append_of_le_length (by omega), List.take_of_length_le (by omega)]
    show (x :: z :: a).Perm (x :: (a ++ [z]))
    exact List.Perm.cons _ (List.perm_append_singleton z a).symm
theorem Dn.done {l : List α} {i : Nat} (h : Dn d lt l i) (hi : ∀ c, 0 < c → c < l.length → (c - 1) / 2 = i → ¬ lt (l.getD c d) (l.getD i d)) : Heap d lt l := by
  intro k h0 hk
  by_cases e : (k - 1) / 2 = i
  · have := hi k h0 hk e; rw [← e] at this; exact this
  · exact h.else_ k h0 hk e
theorem Dn.step (O : Order lt) {l : List α} {i c : Nat} (h : Dn d lt l i) (hc0 : 0 < c) (hc : c < l.length) (hci : (c - 1) / 2 = i) (hlt : lt (l.getD c d) (l.getD i d)) (hs : ∀ k, 0 < k → k < l.length → (k - 1) / 2 = i → ¬ lt (l.getD k d) (l.getD c d)) : Dn d lt (swapL d l i c) c := by
  have hi : i < l.length := by omega
  refine ⟨fun k hk0 hk hkp => ?_, fun _ k hk0 hk he => ?_⟩
  · rw [swapL_length] at hk
    rw [getD_swap d l i c k hi hc, getD_swap d l i c _ hi hc, if_neg hkp]
    by_cases e : k = c
    · subst e
      rw [if_pos rfl, if_pos hci]
      exact O.asym _ _ hlt
    · rw [if_neg e]
      by_cases e1 : k = i
      · subst e1
        rw [if_pos rfl, if_neg (by omega)]
        exact h.over hk0 c hc0 hc hci
      · rw [if_neg e1]
        by_cases e2 : (k - 1) / 2 = i
        · rw [if_pos e2]; exact hs k hk0 hk e2
        · rw [if_neg e2]; exact h.else_ k hk0 hk e2
  · rw [swapL_length] at hk
    rw [getD_swap d l i c k hi hc, getD_swap d l i c _ hi hc, hci, if_neg (by omega), if_neg (by omega), if_neg (by omega), if_pos rfl]
    have := h.else_ k hk0 hk (by omega)
    rw [he] at this
    exact this
end HeapPlain
end

section
set_option linter.unusedVariables false
set_option linter.unusedSimpArgs false
namespace SimPlain
open HeapPlain

structure Ev where
  t : Int
  id : Int
  s : Int
deriving DecidableEq

def e0 : Ev := ⟨0, 0, 0⟩
def Lt (a b : Ev) : Prop := a.t < b.t ∨ (a.t = b.t ∧ a.s < b.s)
instance (a b : Ev) : Decidable (Lt a b) := inferInstanceAs (Decidable (_ ∨ _))
def ltB (a b : Ev) : Bool := decide (Lt a b)
theorem order : Order Lt := ⟨fun a b h => by unfold Lt at *; omega, fun a b c h k => by unfold Lt at *; omega⟩
theorem Lt.trans {a b c : Ev} (h : Lt a b) (k : Lt b c) : Lt a c := by unfold Lt at *; omega
theorem Lt.irrefl (a : Ev) : ¬ Lt a a := by unfold Lt; omega

/-- no two of the same number -/
def Apart (l : List Ev) : Prop := (l.map (·.s)).Nodup
theorem Apart.perm {l l' : List Ev} (h : Apart l) (p : l'.Perm l) : Apart l' := (p.map _).nodup_iff.2 h
theorem Apart.tail {x : Ev} {l : List Ev} (h : Apart (x :: l)) : Apart l := by
  unfold Apart at *; rw [List.map_cons, List.nodup_cons] at h; exact h.2
theorem Apart.cons {x : Ev} {l : List Ev} (h : Apart l) (hx : ∀ e ∈ l, e.s < x.s) : Apart (x :: l) := by
  unfold Apart at *
  rw [List.map_cons, List.nodup_cons]
  refine ⟨fun hm => ?_, h⟩
  obtain ⟨e, he, h1⟩ := List.mem_map.1 hm
  have := hx e he; omega
/-- the least one stands strictly ahead of all others -/
theorem least_lt {x : Ev} {l : List Ev} (h : Apart (x :: l)) (hm : ∀ e ∈ l, ¬ Lt e x) : ∀ e ∈ l, Lt x e := fun e he => by
  have h1 := hm e he
  unfold Apart at h
  rw [List.map_cons, List.nodup_cons] at h
  have h2 : e.s ≠ x.s := fun c => h.1 (List.mem_map.2 ⟨e, he, c⟩)
  unfold Lt at *; omega
/-- of two lists of the same ones the least is the same -/
theorem least_unique {x y : Ev} {l l' : List Ev} (hp : (x :: l).Perm (y :: l')) (hx : ∀ e ∈ l, Lt x e) (hy : ∀ e ∈ l', Lt y e) : x = y ∧ l.Perm l' := by
  have e : x = y := by
    have h1 : x ∈ y :: l' := hp.mem_iff.1 (by simp)
    have h2 : y ∈ x :: l := hp.mem_iff.2 (by simp)
    rcases List.mem_cons.1 h1 with h1 | h1
    · exact h1
    · rcases List.mem_cons.1 h2 with h2 | h2
      · exact h2.symm
      · exact absurd ((hy x h1).trans (hx y h2)) (Lt.irrefl _)
  subst e
  exact ⟨rfl, hp.cons_inv⟩

/-- what a sim is -/
structure Fine (l : List Ev) (now seq : Int) : Prop where
  apart : Apart l
  range : ∀ e ∈ l, now ≤ e.t ∧ e.t ≤ 1000000 ∧ 0 ≤ e.id ∧ e.id ≤ 1000000 ∧ e.s ≤ seq
  now0 : 0 ≤ now
  nowL : now ≤ 1000000
  seq0 : 0 ≤ seq
  many : l.length ≤ 60
theorem Fine.perm {l l' : List Ev} {now seq : Int} (h : Fine l now seq) (p : l'.Perm l) : Fine l' now seq :=
  ⟨h.apart.perm p, fun e he => h.range e (p.mem_iff.1 he), h.now0, h.nowL, h.seq0, by rw [p.length_eq]; exact h.many⟩
theorem Fine.plan {l : List Ev} {now seq t id : Int} (h : Fine l now seq) (h1 : now ≤ t) (h2 : t ≤ 1000000) (h3 : 0 ≤ id) (h4 : id ≤ 1000000) (h5 : l.length < 60) : Fine (⟨t, id, seq + 1⟩ :: l) now (seq + 1) := by
  refine ⟨h.apart.cons fun e he => ?_, fun e he => ?_, h.now0, h.nowL, by have := h.seq0; omega, by rw [List.length_cons]; omega⟩
  · have := h.range e he; show e.s < seq + 1; omega
  · rcases List.mem_cons.1 he with rfl | he
    · exact ⟨h1, h2, h3, h4, Int.le_refl _⟩
    · have := h.range e he; omega
theorem Fine.next {x : Ev} {l : List Ev} {now seq : Int} (h : Fine (x :: l) now seq) (hm : ∀ e ∈ l, ¬ Lt e x) : Fine l x.t seq ∧ ∀ e ∈ l, Lt x e := by
  have hx := h.range x (by simp)
  refine ⟨⟨h.apart.tail, fun e he => ?_, by have := h.now0; omega, by omega, h.seq0, by have := h.many; rw [List.length_cons] at this; omega⟩, least_lt h.apart hm⟩
  have h1 := h.range e (by simp [he])
  have h2 := hm e he
  unfold Lt at h2
  omega
theorem Fine.later {l : List Ev} {now seq t : Int} (h : Fine l now seq) (h1 : now ≤ t) (h2 : t ≤ 1000000) (hm : ∀ e ∈ l, t < e.t) : Fine l t seq :=
  ⟨h.apart, fun e he => by have := h.range e he; have := hm e he; omega, by have := h.now0; omega, h2, h.seq0, h.many⟩
theorem Fine.zero : Fine [] 0 0 := ⟨by simp [Apart], by simp, by omega, by omega, by omega, by simp⟩

/-- what a heap gives first -/
theorem heap_pop {l : List Ev} (h : Heap e0 Lt l) {x : Ev} {l' : List Ev} (hx : x = l.getD 0 e0) (hp : (x :: l').Perm l) : ∀ e ∈ l', ¬ Lt e x := fun e he => by
  have h1 : e ∈ l := hp.mem_iff.1 (by simp [he])
  obtain ⟨k, hk, rfl⟩ := List.mem_iff_getElem.1 h1
  have := heap_min e0 order h k hk
  rw [getD_lt e0 l k hk] at this
  rw [hx]; exact this
end SimPlain
end

section
set_option linter.unusedVariables false
set_option linter.unusedSimpArgs false
namespace SymPlain
open HeapPlain (swapL)
variable {α : Type} {R : α → α → Prop} (d : α)

theorem getD_mid (A : List α) (x : α) (B : List α) {i : Nat} (h : i = A.length) : (A ++ x :: B).getD i d = x := by
  subst h; rw [List.getD_eq_getElem?_getD, List.getElem?_append_right (Nat.le_refl _)]; simp
theorem swapL_mid (A : List α) (x : α) (C : List α) (y : α) (E : List α) {i j : Nat} (hi : i = A.length) (hj : j = A.length + 1 + C.length) :
    swapL d (A ++ x :: (C ++ y :: E)) i j = A ++ y :: (C ++ x :: E) := by
  have e1 : (A ++ x :: (C ++ y :: E)).getD i d = x := getD_mid d A x _ hi
  have e2 : (A ++ x :: (C ++ y :: E)).getD j d = y := by
    have := getD_mid d (A ++ x :: C) y E (i := j) (by simp; omega)
    simpa using this
  unfold swapL
  rw [e1, e2]
  have s1 : (A ++ x :: (C ++ y :: E)).set i y = A ++ y :: (C ++ y :: E) := by
    rw [List.set_append_right _ _ (by omega), show i - A.length = 0 by omega]; rfl
  rw [s1]
  have s2 : (A ++ y :: (C ++ y :: E)).set j x = A ++ y :: (C ++ x :: E) := by
    rw [List.set_append_right _ _ (by omega), show j - A.length = C.length + 1 by omega, List.set_cons_succ, List.set_append_right _ _ (by omega), show C.length - C.length = 0 by omega]; rfl
  exact s2
theorem swapL_down (A : List α) (x y : α) (E : List α) {i j : Nat} (hj : j = A.length) (hi : i = A.length + 1) : swapL d (A ++ x :: y :: E) i j = A ++ y :: x :: E := by
  have e1 : (A ++ x :: y :: E).getD j d = x := getD_mid d A x _ hj
  have e2 : (A ++ x :: y :: E).getD i d = y := by
    have := getD_mid d (A ++ [x]) y E (i := i) (by simp; omega)
    simpa using this
  unfold swapL
  rw [e1, e2]
  have s1 : (A ++ x :: y :: E).set i x = A ++ x :: x :: E := by
    rw [List.set_append_right _ _ (by omega), show i - A.length = 1 by omega]; rfl
  rw [s1, List.set_append_right _ _ (by omega), show j - A.length = 0 by omega]; rfl
theorem pairwise_mid {A B : List α} {x : α} (h : (A ++ B).Pairwise R) (hA : ∀ y ∈ A, R y x) (hB : ∀ y ∈ B, R x y) : (A ++ x :: B).Pairwise R := by
  rw [List.pairwise_append] at h ⊢
  refine ⟨h.1, List.pairwise_cons.2 ⟨hB, h.2.1⟩, fun a ha b hb => ?_⟩
  rcases List.mem_cons.1 hb with e | e
  · subst e; exact hA a ha
  · exact h.2.2 a ha b e
theorem all_before (T : ∀ a b c, R a b → R b c → R a c) {A : List α} {y x : α} (h : (A ++ [y]).Pairwise R) (hy : R y x) : ∀ z ∈ A ++ [y], R z x := by
  intro z hz
  rcases List.mem_append.1 hz with e | e
  · exact T _ _ _ ((List.pairwise_append.1 h).2.2 z e y (by simp)) hy
  · simp at e; subst e; exact hy
theorem all_behind (T : ∀ a b c, R a b → R b c → R a c) {A : List α} {y x : α} (h : (y :: A).Pairwise R) (hy : R x y) : ∀ z ∈ y :: A, R x z := by
  intro z hz
  rcases List.mem_cons.1 hz with e | e
  · subst e; exact hy
  · exact T _ _ _ hy ((List.pairwise_cons.1 h).1 z e)
theorem split_last (A : List α) (h : A ≠ []) : ∃ A' y, A = A' ++ [y] := ⟨A.dropLast, A.getLast h, (List.dropLast_concat_getLast h).symm⟩
/-- all of the one stand before all of the other, if its last one stands before its first one -/
theorem cross (T : ∀ a b c, R a b → R b c → R a c) {U1 U2 V1 V2 : List α} (hU : (U1 ++ U2).Pairwise R) (hV : (V1 ++ V2).Pairwise R)
    (h : ∀ (C : List α) (x y : α) (D : List α), U1 = C ++ [x] → V2 = y :: D → R x y) : ∀ x ∈ U1, ∀ y ∈ V2, R x y := by
  intro x hx y hy
  obtain ⟨C, x0, rfl⟩ := split_last U1 (fun e => by rw [e] at hx; simp at hx)
  cases V2 with
  | nil => simp at hy
  | cons y0 D =>
    have h0 := h C x0 y0 D rfl rfl
    have h1 := all_before T (List.pairwise_append.1 hU).1 h0 x hx
    exact all_behind T (List.pairwise_append.1 hV).2.1 h1 y hy
theorem merge_join {U1 U2 V1 V2 W1 W2 : List α} (hU : (U1 ++ U2).Pairwise R) (hV : (V1 ++ V2).Pairwise R) (h12 : ∀ x ∈ U1, ∀ y ∈ V2, R x y) (h21 : ∀ x ∈ V1, ∀ y ∈ U2, R x y)
    (p1 : W1.Perm (U1 ++ V1)) (s1 : W1.Pairwise R) (p2 : W2.Perm (U2 ++ V2)) (s2 : W2.Pairwise R) : (W1 ++ W2).Perm ((U1 ++ U2) ++ (V1 ++ V2)) ∧ (W1 ++ W2).Pairwise R := by
  rw [List.pairwise_append] at hU hV
  refine ⟨?_, List.pairwise_append.2 ⟨s1, s2, fun x hx y hy => ?_⟩⟩
  · refine (p1.append p2).trans ?_
    rw [List.append_assoc, List.append_assoc]
    refine List.Perm.append_left U1 ?_
    rw [← List.append_assoc, ← List.append_assoc]
    exact List.Perm.append_right V2 List.perm_append_comm
  · have hx' := p1.mem_iff.1 hx
    have hy' := p2.mem_iff.1 hy
    rcases List.mem_append.1 hx' with a | a <;> rcases List.mem_append.1 hy' with b | b
    · exact hU.2.2 x a y b
    · exact h12 x a y b
    · exact h21 x a y b
    · exact hV.2.2 x a y b
/-- one into many -/
theorem one_left {u : α} {V1 V2 : List α} (hV : (V1 ++ V2).Pairwise R) (h1 : ∀ x ∈ V1, R x u) (h2 : ∀ y ∈ V2, R u y) : (V1 ++ u :: V2).Perm ([u] ++ (V1 ++ V2)) ∧ (V1 ++ u :: V2).Pairwise R :=
  ⟨by simp, pairwise_mid hV h1 h2⟩
theorem one_right {v : α} {U1 U2 : List α} (hU : (U1 ++ U2).Pairwise R) (h1 : ∀ x ∈ U1, R x v) (h2 : ∀ y ∈ U2, R v y) : (U1 ++ v :: U2).Perm ((U1 ++ U2) ++ [v]) ∧ (U1 ++ v :: U2).Pairwise R :=
  ⟨List.perm_middle.trans (List.perm_append_singleton v _).symm, pairwise_mid hU h1 h2⟩
/-- a list cut where one likes -/
theorem cut_at (l : List α) (n : Nat) (h : n ≤ l.length) : ∃ A B, l = A ++ B ∧ A.length = n := ⟨l.take n, l.drop n, (List.take_append_drop n l).symm, by rw [List.length_take]; omega⟩
end SymPlain
end

section
set_option linter.unusedVariables false
set_option linter.unusedSimpArgs false
namespace Go.Proofs.YtienepcknafddaaDoor
open Go Go.RowKit SimPlain HeapPlain SymPlain

/-- all stands but what is owned -/
structure Only (w w' : World) (own : Nat → Prop) : Prop where
  os : w'.os = w.os
  tape : w'.tape = w.tape
  output : w'.output = w.output
  size : w.heap.size ≤ w'.heap.size
  block : ∀ k, k < w.heap.size → ¬ own k → w'.heap[k]? = w.heap[k]?
theorem Only.refl (w : World) (own : Nat → Prop) : Only w w own := ⟨rfl, rfl, rfl, Nat.le_refl _, fun _ _ _ => rfl⟩
theorem Only.mono {w w' : World} {own own' : Nat → Prop} (h : Only w w' own) (ho : ∀ k, k < w.heap.size → own k → own' k) : Only w w' own' :=
  ⟨h.os, h.tape, h.output, h.size, fun k hk hn => h.block k hk fun c => hn (ho k hk c)⟩
theorem Only.trans {a b c : World} {o o' : Nat → Prop} (h : Only a b o) (k : Only b c o') (ho : ∀ j, j < a.heap.size → o' j → o j) : Only a c o :=
  ⟨k.os.trans h.os, k.tape.trans h.tape, k.output.trans h.output, Nat.le_trans h.size k.size, fun j hj hn =>
    (k.block j (Nat.lt_of_lt_of_le hj h.size) fun x => hn (ho j hj x)).trans (h.block j hj hn)⟩
theorem Only.below {w w' : World} {own : Nat → Prop} (h : Only w w' own) {B : Nat} (hB : B ≤ w.heap.size) (ho : ∀ k, own k → B ≤ k) : Below B w w' :=
  ⟨h.os, h.tape, h.output, h.size, fun k hk => h.block k (by omega) fun c => by have := ho k c; omega⟩
theorem Only.setCell (w : World) (a : Addr) (v : Value) (own : Nat → Prop) (h : own a.block) : Only w (w.setCell a v) own :=
  ⟨rfl, rfl, rfl, by simp [World.setCell], fun k hk hn => heap_setCell_other w a k v (fun c => hn (c ▸ h))⟩
theorem Only.alloc (w : World) (o : Obj) (own : Nat → Prop) : Only w (w.alloc o) own :=
  ⟨rfl, rfl, rfl, by simp, fun k hk _ => Below.heap_alloc w o k hk⟩
theorem Only.drewN {w w' : World} {own : Nat → Prop} (h : Only w w' own) (n : Nat) : Only w (w'.drewN n) own := ⟨h.os, h.tape, h.output, h.size, h.block⟩
theorem Only.cell {w w' : World} {own : Nat → Prop} (h : Only w w' own) {a : Addr} (ha : a.block < w.heap.size) (hn : ¬ own a.block) : w'.cell? a = w.cell? a :=
  World.cell?_of_block (h.block a.block ha hn)
/-! ### rows of items of the document -/
def e2Vals (e : Ev) : List Value := [.int .i64 e.t, .int .i64 e.id]
def flat2 (l : List Ev) : List Value := l.flatMap e2Vals
theorem flat2_length (l : List Ev) : (flat2 l).length = l.length * 2 := by
  induction l with
  | nil => rfl
  | cons p l ih => simp only [flat2, List.flatMap_cons, List.length_append, List.length_cons] at ih ⊢; rw [ih]; simp [e2Vals]; omega
theorem flat2_append (l l' : List Ev) : flat2 (l ++ l') = flat2 l ++ flat2 l' := by simp [flat2]
theorem flat2_get (l : List Ev) : ∀ (i f : Nat), i < l.length → f < 2 → (flat2 l)[i * 2 + f]? = (e2Vals (l.getD i e0))[f]? := by
  induction l with
  | nil => intro i f h; simp at h
  | cons p l ih =>
    intro i f h hf
    have hl : (e2Vals p).length = 2 := rfl
    rw [show flat2 (p :: l) = e2Vals p ++ flat2 l from rfl]
    cases i with
    | zero => rw [Nat.zero_mul, Nat.zero_add, List.getElem?_append_left (by omega)]; rfl
    | succ i =>
      rw [List.getElem?_append_right (by omega), hl, show (i + 1) * 2 + f - 2 = i * 2 + f by omega, ih i f (by simpa using h) hf]; rfl
def EtOwn (w : World) (B : Nat) (a : Option Addr) (cap : Nat) (l : List Ev) : Prop := w.ownsRow B 34 2 (.slice a l.length cap) l.length (flat2 l)
theorem EtOwn.nil (w : World) (B : Nat) : EtOwn w B none 0 [] := World.ownsRow_nil _ _ _ _
theorem EtOwn.lt {w : World} {B : Nat} {a : Option Addr} {cap : Nat} {l : List Ev} (h : EtOwn w B a cap l) : ∀ k, (Value.slice a l.length cap).ownBlock = some k → B ≤ k ∧ k < w.heap.size := World.ownsRow.lt h
theorem EtOwn.of {w : World} {B : Nat} {v : Value} {n : Nat} {l : List Ev} (h : w.ownsRow B 34 2 v n (flat2 l)) : ∃ a cap, v = .slice a l.length cap ∧ EtOwn w B a cap l := by
  have hn : n = l.length := by have := h.1; rw [flat2_length] at this; omega
  subst hn
  rcases h.2 with ⟨rfl, h0⟩ | ⟨g, cap, cur, rfl, _⟩
  · exact ⟨none, 0, by rw [h0], by unfold EtOwn; rw [h0] at h ⊢; exact h⟩
  · exact ⟨_, _, rfl, h⟩
theorem EtOwn.same {w w' : World} {B : Nat} {a : Option Addr} {cap : Nat} {l : List Ev} (h : EtOwn w B a cap l) (hw : ∀ k, (Value.slice a l.length cap).ownBlock = some k → w'.heap[k]? = w.heap[k]?) : EtOwn w' B a cap l := by
  refine ⟨h.1, ?_⟩
  rcases h.2 with h2 | ⟨g, cap', cur, h', hb, hg, hr⟩
  · exact .inl h2
  · refine .inr ⟨g, cap', cur, h', hb, ?_, hr⟩
    rw [hw g (by rw [h']; rfl)]; exact hg
theorem EtOwn.only {w w' : World} {B : Nat} {a : Option Addr} {cap : Nat} {l : List Ev} {own : Nat → Prop} (h : EtOwn w B a cap l) (o : Only w w' own) (hB : ∀ k, own k → k < B) : EtOwn w' B a cap l :=
  h.same fun k hk => o.block k (h.lt k hk).2 fun c => by have := hB k c; have := (h.lt k hk).1; omega
/-- an event of a row -/
theorem EtOwn.open {w : World} {B : Nat} {a : Option Addr} {cap : Nat} {l : List Ev} (h : EtOwn w B a cap l) (h0 : 0 < l.length) :
    ∃ g, a = some ⟨g, 0, none⟩ ∧ B ≤ g ∧ g < w.heap.size ∧ ∀ i, i < l.length → w.cell? ⟨g, i * 2, none⟩ = some (.int .i64 (l.getD i e0).t) ∧ w.cell? ⟨g, i * 2 + 1, none⟩ = some (.int .i64 (l.getD i e0).id) := by
  rcases h.2 with ⟨h', hz⟩ | ⟨g, cap', cur, h', hb, hg, hc, _, hs, ht⟩
  · omega
  · simp only [Value.slice.injEq, true_and] at h'
    obtain ⟨rfl, rfl⟩ := h'
    refine ⟨g, rfl, hb, lt_of_block hg, fun i hi => ?_⟩
    have key : ∀ f, f < 2 → ∀ v, (e2Vals (l.getD i e0))[f]? = some v → w.cell? ⟨g, i * 2 + f, none⟩ = some v := by
      intro f hf v hv
      rw [← flat2_get l i f hi hf, ← ht, List.getElem?_take_of_lt (by omega)] at hv
      simp only [Array.getElem?_toList] at hv
      simp [World.cell?, hg, hv]
    exact ⟨key 0 (by omega) _ rfl, key 1 (by omega) _ rfl⟩
theorem etInfo : (Tryd.prog.info? 34).map (fun i => (i.zero, i.size, i.bytes)) = some (some (.agg #[.int .i64 0, .int .i64 0]), 2, 16) := by kernel_rfl
theorem one_cells2 (l : List Ev) : ∀ u ∈ flat2 l, u.oneCell' = true := by
  intro u hu
  obtain ⟨e, _, he⟩ := List.mem_flatMap.1 hu
  simp only [e2Vals, List.mem_cons, List.not_mem_nil, or_false] at he
  rcases he with rfl | rfl <;> rfl
theorem grown_below {w w' : World} {r : Option Nat} {B : Nat} (h : w.grownBy w' r) (hB : B ≤ w.heap.size) (hr : ∀ k, r = some k → B ≤ k) : Below B w w' :=
  ⟨h.os, h.tape, h.output, h.size, fun k hk => h.block k (by omega) fun e => by have := hr k e.symm; omega⟩
theorem EtOwn.mono {w : World} {B B' : Nat} {a : Option Addr} {cap : Nat} {l : List Ev} (h : EtOwn w B a cap l) (hB : B' ≤ B) : EtOwn w B' a cap l := by
  refine ⟨h.1, ?_⟩
  rcases h.2 with h | ⟨g, c, cur, h1, h2, h3⟩
  · exact .inl h
  · exact .inr ⟨g, c, cur, h1, by omega, h3⟩
/-- THE SLICE AT `a` READS AS THE ITEMS `l` (t: the key) -/
def EvA (w : World) (a : Option Addr) (l : List Ev) : Prop := l = [] ∨ ∃ b off, a = some ⟨b, off, none⟩ ∧ b < w.heap.size ∧ ∀ i, i < l.length → w.cell? ⟨b, off + i * 2, none⟩ = some (.int .i64 (l.getD i e0).t) ∧ w.cell? ⟨b, off + i * 2 + 1, none⟩ = some (.int .i64 (l.getD i e0).id)
theorem EvA.below {w w' : World} {a : Option Addr} {l : List Ev} (h : EvA w a l) (hb : Below w.heap.size w w') : EvA w' a l := by
  rcases h with h | ⟨b, off, rfl, hl, hc⟩
  · exact .inl h
  · refine .inr ⟨b, off, rfl, Nat.lt_of_lt_of_le hl hb.size, fun i hi => ?_⟩
    obtain ⟨c1, c2⟩ := hc i hi
    exact ⟨(hb.cell (p := ⟨b, off + i * 2, none⟩) hl).trans c1, (hb.cell (p := ⟨b, off + i * 2 + 1, none⟩) hl).trans c2⟩
theorem EvA.open {w : World} {a : Option Addr} {l : List Ev} (h : EvA w a l) (h0 : 0 < l.length) : ∃ b off, a = some ⟨b, off, none⟩ ∧ b < w.heap.size ∧ ∀ i, i < l.length → w.cell? ⟨b, off + i * 2, none⟩ = some (.int .i64 (l.getD i e0).t) ∧ w.cell? ⟨b, off + i * 2 + 1, none⟩ = some (.int .i64 (l.getD i e0).id) := by
  rcases h with h | h
  · rw [h] at h0; simp at h0
  · exact h
theorem getD_memE {l : List Ev} {i : Nat} (h : i < l.length) : l.getD i e0 ∈ l := by
  rw [List.getD_eq_getElem?_getD, List.getElem?_eq_getElem h]; exact List.getElem_mem h

/-- what is wrong with items -/
def okE (e : Ev) : Bool := decide (-1000000 ≤ e.t) && decide (e.t ≤ 1000000) && (decide (0 ≤ e.id) && decide (e.id ≤ 1000000))
def chkI (l : List Ev) : Int := if 60 < l.length then 4 else if l.all okE = true then 0 else 1
theorem okE_iff (e : Ev) : okE e = true ↔ (-1000000 ≤ e.t ∧ e.t ≤ 1000000) ∧ 0 ≤ e.id ∧ e.id ≤ 1000000 := by simp [okE]
theorem chkI_fine {l : List Ev} (h : chkI l = 0) : l.length ≤ 60 ∧ ∀ e ∈ l, okE e = true := by
  unfold chkI at h
  by_cases h1 : 60 < l.length
  · rw [if_pos h1] at h; omega
  rw [if_neg h1] at h
  by_cases h3 : l.all okE = true
  · exact ⟨by omega, fun e he => List.all_eq_true.1 h3 e he⟩
  · rw [if_neg h3] at h; omega
theorem fine_chkI {l : List Ev} (h1 : l.length ≤ 60) (h2 : ∀ e ∈ l, okE e = true) : chkI l = 0 := by
  unfold chkI
  rw [if_neg (by omega), if_pos (List.all_eq_true.2 h2)]
set_option maxHeartbeats 1000000 in
theorem CheckI_any (l : List Ev) (a : Option Addr) (cap : Nat) (w : World) (hx : EvA w a l) (hl : l.length ≤ 9223372036854775807) :
    Calls Tryd.prog 10 #[.slice a l.length cap] w fun e w' => e = .returned (errV 36 (chkI l)) ∧ Below w.heap.size w w' := by
  by_cases h1 : 60 < l.length
  · have e : chkI l = 4 := by unfold chkI; rw [if_pos h1]
    rw [e, errV_bad (by decide)]
    clear e
    have h1' : (60 : Int) < l.length := by omega
    go_enter Tryd.func10, Tryd.ntmps10
    go_wp2
    go_ret
    exact ⟨rfl, Below.refl _ _⟩
  have h1' : (l.length : Int) ≤ 60 := by omega
  have hlen : l.length ≤ 60 := by omega
  have echk : chkI l = if l.all okE = true then 0 else 1 := by unfold chkI; rw [if_neg h1]
  rw [echk]
  have hbad : (∃ i, i < l.length ∧ okE (l.getD i e0) = false) → (if l.all okE = true then (0 : Int) else 1) = 1 := fun ⟨i, hi, hb⟩ => by
    rw [if_neg]
    intro h
    rw [List.all_eq_true.1 h _ (getD_memE hi)] at hb
    cases hb
  have hgood : (∀ i, i < l.length → okE (l.getD i e0) = true) → (if l.all okE = true then (0 : Int) else 1) = 0 := fun h => by
    rw [if_pos]
    refine List.all_eq_true.2 fun g hg => ?_
    obtain ⟨i, hi, rfl⟩ := List.mem_iff_getElem.1 hg
    have := h i hi
    rwa [List.getD_eq_getElem?_getD, List.getElem?_eq_getElem hi] at this
  generalize (if l.all okE = true then (0 : Int) else 1) = E at hbad hgood ⊢
  have Hbad := Lib.hid hbad
  have Hgood := Lib.hid hgood
  clear h1 echk hbad hgood
  go_enter Tryd.func10, Tryd.ntmps10
  go_wp2
  go_loopw [11] (fun i wr => ∃ k : Nat, i = .int .i64 k ∧ k ≤ l.length ∧ (∀ j, j < k → okE (l.getD j e0) = true) ∧ Below w.heap.size w wr) (fun i _ => l.length - (intOf i).toNat)
  case atStart => exact ⟨0, rfl, Nat.zero_le _, fun j hj => by omega, Below.refl _ _⟩
  case round =>
    obtain ⟨k, rfl, hk, hall, hb⟩ := hrel
    have Hall := Lib.hid hall
    clear hall
    rcases Nat.lt_or_ge k l.length with hlt | hge
    · obtain ⟨b, off, rfl, hbl, hc⟩ := hx.open (by omega)
      obtain ⟨c0, c1⟩ := hc k hlt
      replace c0 := (hb.cell (p := ⟨b, off + k * 2, none⟩) hbl).trans c0
      replace c1 := (hb.cell (p := ⟨b, off + k * 2 + 1, none⟩) hbl).trans c1
      have hsz := hb.size
      clear hc
      have Hk : ∀ b, okE (l.getD k e0) = b → okE ⟨(l.getD k e0).t, (l.getD k e0).id, 0⟩ = b := fun b h => h
      have Hb : okE (l.getD k e0) = okE ⟨(l.getD k e0).t, (l.getD k e0).id, 0⟩ := rfl
      clear Hk
      generalize hgw : (l.getD k e0).t = gw at c0 Hb
      generalize hgv : (l.getD k e0).id = gv at c1 Hb
      have HB := Lib.hid Hb
      clear Hb hgw hgv
      by_cases h1 : -1000000 ≤ gw ∧ gw ≤ 1000000
      · by_cases h2 : 0 ≤ gv ∧ gv ≤ 1000000
        · have hg : okE ⟨gw, gv, 0⟩ = true := (okE_iff _).2 ⟨h1, h2⟩
          have Hg := Lib.hid hg
          clear hg
          obtain ⟨p1, p2⟩ := h1
          obtain ⟨q1, q2⟩ := h2
          go_wp2_with fail
          refine (within_yes gw (-1000000) 1000000 p1 p2 _).mono ?_
          rintro e w' ⟨rfl, rfl⟩
          go_wp2_with fail
          refine (within_yes gv 0 1000000 q1 q2 _).mono ?_
          rintro e w' ⟨rfl, rfl⟩
          go_wp2
          go_roundw
          case rel =>
            refine ⟨k + 1, by go_num, by omega, fun j hj => ?_, hb.alloc hsz _⟩
            rcases Nat.lt_or_ge j k with h | h
            · exact Hall.out j h
            · obtain rfl : j = k := by omega
              rw [HB.out]; exact Hg.out
          case measure => simp only [intOf]; omega
        · have hg : okE ⟨gw, gv, 0⟩ = false := by
            rcases hh : okE ⟨gw, gv, 0⟩ with _ | _
            · rfl
            · exact absurd ((okE_iff _).1 hh).2 h2
          have hE := Hbad.out ⟨k, hlt, by rw [HB.out]; exact hg⟩
          have q : gv < 0 ∨ 1000000 < gv := by omega
          have Hq := Lib.hid q
          obtain ⟨p1, p2⟩ := h1
          subst hE
          clear h2 hg q
          go_wp2_with fail
          refine (within_yes gw (-1000000) 1000000 p1 p2 _).mono ?_
          rintro e w' ⟨rfl, rfl⟩
          go_wp2_with fail
          refine (within_no gv 0 1000000 Hq.out _).mono ?_
          rintro e w' ⟨rfl, rfl⟩
          go_wp2
          go_ret
          exact ⟨rfl, hb.alloc hsz _⟩
      · have hg : okE ⟨gw, gv, 0⟩ = false := by
          rcases hh : okE ⟨gw, gv, 0⟩ with _ | _
          · rfl
          · exact absurd ((okE_iff _).1 hh).1 h1
        have hE := Hbad.out ⟨k, hlt, by rw [HB.out]; exact hg⟩
        have q : gw < -1000000 ∨ 1000000 < gw := by omega
        have Hq := Lib.hid q
        subst hE
        clear h1 hg q
        go_wp2_with fail
        refine (within_no gw (-1000000) 1000000 Hq.out _).mono ?_
        rintro e w' ⟨rfl, rfl⟩
        go_wp2
        go_ret
        exact ⟨rfl, hb.alloc hsz _⟩
    · have hE := Hgood.out (fun i hi => Hall.out i (by omega))
      subst hE
      have h3 : (l.length : Int) ≤ k := by omega
      go_wp2
      go_ret
      exact ⟨rfl, hb⟩
end Go.Proofs.YtienepcknafddaaDoor
end
