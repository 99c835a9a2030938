/- WALK: rows of planned events of the call's own; two sims side by side. -/
import Derived.Test.YtdalffmmkhcdaaaBase
import Derived.Test.YtdalffmmkhcdaaaRows
import Derived.Test.YtdalffmmkhcdaaaSimPlain
import Derived.OwnWalk
import Derived.Maps.AppendAt
import Derived.Deep.MidRow
set_option linter.unusedVariables false
set_option linter.unusedSimpArgs false
namespace Go.Proofs.Ytdalffmmkhcdaaa
open Go Go.RowKit SimPlain HeapPlain

def evVals (e : Ev) : List Value := [.int .i64 e.t, .int .i64 e.id, .int .i64 e.s]
def flat3 (l : List Ev) : List Value := l.flatMap evVals
theorem flat3_length (l : List Ev) : (flat3 l).length = l.length * 3 := by
  induction l with
  | nil => rfl
  | cons p l ih => simp only [flat3, List.flatMap_cons, List.length_append, List.length_cons] at ih ⊢; rw [ih]; simp [evVals]; omega
theorem flat3_append (l l' : List Ev) : flat3 (l ++ l') = flat3 l ++ flat3 l' := by simp [flat3]
theorem flat3_get (l : List Ev) : ∀ (i f : Nat), i < l.length → f < 3 → (flat3 l)[i * 3 + f]? = (evVals (l.getD i e0))[f]? := by
  induction l with
  | nil => intro i f h; simp at h
  | cons p l ih =>
    intro i f h hf
    have hl : (evVals p).length = 3 := rfl
    rw [show flat3 (p :: l) = evVals p ++ flat3 l from rfl]
    cases i with
    | zero => rw [Nat.zero_mul, Nat.zero_add, List.getElem?_append_left (by omega)]; rfl
    | succ i =>
      rw [List.getElem?_append_right (by omega), hl, show (i + 1) * 3 + f - 3 = i * 3 + f by omega, ih i f (by simpa using h) hf]; rfl
theorem flat3_one (l : List Ev) : ∀ u ∈ flat3 l, u.oneCell' = true := by
  intro u hu
  obtain ⟨p, _, hp⟩ := List.mem_flatMap.1 hu
  simp only [evVals, List.mem_cons, List.not_mem_nil, or_false] at hp
  rcases hp with rfl | rfl | rfl <;> simp [Value.oneCell']
theorem flat3_take (l : List Ev) (n : Nat) (h : n ≤ l.length) : flat3 (l.take n) = (flat3 l).take (n * 3) := by
  have e : flat3 l = flat3 (l.take n) ++ flat3 (l.drop n) := by rw [← flat3_append, List.take_append_drop]
  have hl : (flat3 (l.take n)).length = n * 3 := by rw [flat3_length, List.length_take, Nat.min_eq_left h]
  conv => rhs; rw [e]
  exact (List.take_left' hl).symm

/-- planned events of the call's own -/
def EvOwn (w : World) (B : Nat) (a : Option Addr) (cap : Nat) (l : List Ev) : Prop := w.ownsRow B 54 3 (.slice a l.length cap) l.length (flat3 l)
theorem EvOwn.nil (w : World) (B : Nat) : EvOwn w B none 0 [] := World.ownsRow_nil _ _ _ _
theorem EvOwn.lt {w : World} {B : Nat} {a : Option Addr} {cap : Nat} {l : List Ev} (h : EvOwn w B a cap l) : ∀ k, (Value.slice a l.length cap).ownBlock = some k → B ≤ k ∧ k < w.heap.size := World.ownsRow.lt h
theorem EvOwn.of {w : World} {B : Nat} {v : Value} {n : Nat} {l : List Ev} (h : w.ownsRow B 54 3 v n (flat3 l)) : ∃ a cap, v = .slice a l.length cap ∧ EvOwn w B a cap l := by
  have hn : n = l.length := by have := h.1; rw [flat3_length] at this; omega
  subst hn
  rcases h.2 with ⟨rfl, h0⟩ | ⟨g, cap, cur, rfl, _⟩
  · exact ⟨none, 0, by rw [h0], by unfold EvOwn; rw [h0] at h ⊢; exact h⟩
  · exact ⟨_, _, rfl, h⟩
/-- a row that is not touched -/
theorem EvOwn.same {w w' : World} {B : Nat} {a : Option Addr} {cap : Nat} {l : List Ev} (h : EvOwn w B a cap l) (hw : ∀ k, (Value.slice a l.length cap).ownBlock = some k → w'.heap[k]? = w.heap[k]?) : EvOwn w' B a cap l := by
  refine ⟨h.1, ?_⟩
  rcases h.2 with h2 | ⟨g, cap', cur, h', hb, hg, hr⟩
  · exact .inl h2
  · refine .inr ⟨g, cap', cur, h', hb, ?_, hr⟩
    rw [hw g (by rw [h']; rfl)]; exact hg
structure EvAt (w : World) (g i : Nat) (e : Ev) : Prop where
  c0 : w.cell? ⟨g, i * 3, none⟩ = some (.int .i64 e.t)
  c1 : w.cell? ⟨g, i * 3 + 1, none⟩ = some (.int .i64 e.id)
  c2 : w.cell? ⟨g, i * 3 + 2, none⟩ = some (.int .i64 e.s)
theorem EvOwn.open {w : World} {B : Nat} {a : Option Addr} {cap : Nat} {l : List Ev} (h : EvOwn w B a cap l) (h0 : 0 < l.length) :
    ∃ g, a = some ⟨g, 0, none⟩ ∧ B ≤ g ∧ g < w.heap.size ∧ l.length ≤ cap ∧ (∀ i, i < l.length → EvAt w g i (l.getD i e0)) ∧ ∀ o, w.frozen? ⟨g, o, none⟩ = false := by
  rcases h.2 with ⟨h', hz⟩ | ⟨g, cap', cur, h', hb, hg, hc, _, hs, ht⟩
  · omega
  · simp only [Value.slice.injEq, true_and] at h'
    obtain ⟨rfl, rfl⟩ := h'
    refine ⟨g, rfl, hb, lt_of_block hg, hc, fun i hi => ?_, fun o => by simp [World.frozen?, hg]⟩
    have key : ∀ f, f < 3 → ∀ v, (evVals (l.getD i e0))[f]? = some v → w.cell? ⟨g, i * 3 + f, none⟩ = some v := by
      intro f hf v hv
      rw [← flat3_get l i f hi hf, ← ht, List.getElem?_take_of_lt (by omega)] at hv
      simp only [Array.getElem?_toList] at hv
      simp [World.cell?, hg, hv]
    exact ⟨key 0 (by omega) _ rfl, key 1 (by omega) _ rfl, key 2 (by omega) _ rfl⟩
theorem EvOwn.take {w : World} {B : Nat} {a : Option Addr} {cap : Nat} {l : List Ev} (h : EvOwn w B a cap l) (n : Nat) (hn : n ≤ l.length) (h0 : 0 < l.length) : EvOwn w B a cap (l.take n) := by
  have hl : (l.take n).length = n := by rw [List.length_take, Nat.min_eq_left hn]
  unfold EvOwn
  rw [hl]
  rcases h.2 with ⟨h', hz⟩ | ⟨g, cap', cur, h', hb, hg, hc, hm, hs, ht⟩
  · omega
  · simp only [Value.slice.injEq, true_and] at h'
    obtain ⟨rfl, rfl⟩ := h'
    refine ⟨by rw [flat3_length, hl], .inr ⟨g, cap, cur, rfl, hb, hg, by omega, hm, hs, ?_⟩⟩
    rw [flat3_take l n hn, ← ht, List.take_take, Nat.min_eq_left (by omega)]
/-- an event stored -/
theorem EvOwn.set {w : World} {B g cap : Nat} {l : List Ev} (h : EvOwn w B (some ⟨g, 0, none⟩) cap l) (i : Nat) (hi : i < l.length) (e : Ev) :
    EvOwn (w.setCells g (i * 3) (evVals e)) B (some ⟨g, 0, none⟩) cap (l.set i e) := by
  unfold EvOwn
  rw [List.length_set]
  refine ⟨by rw [flat3_length, List.length_set], ?_⟩
  rcases h.2 with ⟨h', hz⟩ | ⟨g', cap', cur, h', hb, hg, hc, hm, hs, ht⟩
  · omega
  · simp only [Value.slice.injEq, Option.some.injEq, Addr.mk.injEq, true_and, and_true] at h'
    obtain ⟨rfl, rfl⟩ := h'
    refine .inr ⟨g, cap, ((cur.setIfInBounds (i * 3) (.int .i64 e.t)).setIfInBounds (i * 3 + 1) (.int .i64 e.id)).setIfInBounds (i * 3 + 2) (.int .i64 e.s), rfl, hb, ?_, hc, hm, by simpa using hs, ?_⟩
    · show (((w.setCell ⟨g, i * 3, none⟩ _).setCell ⟨g, i * 3 + 1, none⟩ _).setCell ⟨g, i * 3 + 1 + 1, none⟩ _).heap[g]? = _
      exact heap_setCell_same _ g _ _ _ _ (heap_setCell_same _ g _ _ _ _ (heap_setCell_same _ g _ _ _ _ hg))
    · apply List.ext_getElem?
      intro j
      rcases Nat.lt_or_ge j (l.length * 3) with hj | hj
      · have hj' : j / 3 * 3 + j % 3 = j := by omega
        have h3 := flat3_get (l.set i e) (j / 3) (j % 3) (by rw [List.length_set]; omega) (by omega)
        have h4 := flat3_get l (j / 3) (j % 3) (by omega) (by omega)
        rw [hj'] at h3 h4
        rw [h3, List.getElem?_take_of_lt hj, Array.getElem?_toList]
        have h5 : cur[j]? = (flat3 l)[j]? := by rw [← ht, List.getElem?_take_of_lt hj, Array.getElem?_toList]
        rw [getD_set e0 l i (j / 3) e hi]
        have hjs : j < cur.size := by omega
        simp only [Array.getElem?_setIfInBounds, Array.size_setIfInBounds]
        by_cases e1 : j / 3 = i
        · rw [if_pos e1]
          have : j = i * 3 ∨ j = i * 3 + 1 ∨ j = i * 3 + 2 := by omega
          rcases this with h6 | h6 | h6
          · rw [if_neg (by omega), if_neg (by omega), if_pos h6.symm, if_pos (by omega), show j % 3 = 0 by omega]; rfl
          · rw [if_neg (by omega), if_pos h6.symm, if_pos (by omega), show j % 3 = 1 by omega]; rfl
          · rw [if_pos h6.symm, if_pos (by omega), show j % 3 = 2 by omega]; rfl
        · rw [if_neg e1, if_neg (by omega), if_neg (by omega), if_neg (by omega), h5, h4]
      · rw [List.getElem?_eq_none (by simp; omega), List.getElem?_eq_none (by rw [flat3_length, List.length_set]; exact hj)]
theorem EvOwn.swap {w : World} {B g cap : Nat} {l : List Ev} (h : EvOwn w B (some ⟨g, 0, none⟩) cap l) (i j : Nat) (hi : i < l.length) (hj : j < l.length) :
    EvOwn ((w.setCells g (i * 3) (evVals (l.getD j e0))).setCells g (j * 3) (evVals (l.getD i e0))) B (some ⟨g, 0, none⟩) cap (swapL e0 l i j) :=
  (h.set i hi _).set j (by simpa using hj) _

/-- what a call leaves: all blocks but some -/
structure Only (w w' : World) (own : Nat → Prop) : Prop where
  os : w'.os = w.os
  tape : w'.tape = w.tape
  output : w'.output = w.output
  size : w.heap.size ≤ w'.heap.size
  block : ∀ k, k < w.heap.size → ¬ own k → w'.heap[k]? = w.heap[k]?
theorem Only.refl (w : World) (own : Nat → Prop) : Only w w own := ⟨rfl, rfl, rfl, Nat.le_refl _, fun _ _ _ => rfl⟩
theorem Only.mono {w w' : World} {own own' : Nat → Prop} (h : Only w w' own) (ho : ∀ k, k < w.heap.size → own k → own' k) : Only w w' own' :=
  ⟨h.os, h.tape, h.output, h.size, fun k hk hn => h.block k hk fun c => hn (ho k hk c)⟩
theorem Only.trans {a b c : World} {o o' : Nat → Prop} (h : Only a b o) (k : Only b c o') (ho : ∀ j, j < a.heap.size → o' j → o j) : Only a c o :=
  ⟨k.os.trans h.os, k.tape.trans h.tape, k.output.trans h.output, Nat.le_trans h.size k.size, fun j hj hn =>
    (k.block j (Nat.lt_of_lt_of_le hj h.size) fun x => hn (ho j hj x)).trans (h.block j hj hn)⟩
theorem Only.below {w w' : World} {own : Nat → Prop} (h : Only w w' own) {B : Nat} (hB : B ≤ w.heap.size) (ho : ∀ k, own k → B ≤ k) : Below B w w' :=
  ⟨h.os, h.tape, h.output, h.size, fun k hk => h.block k (by omega) fun c => by have := ho k c; omega⟩
theorem Only.setCell (w : World) (a : Addr) (v : Value) (own : Nat → Prop) (h : own a.block) : Only w (w.setCell a v) own :=
  ⟨rfl, rfl, rfl, by simp [World.setCell], fun k hk hn => heap_setCell_other w a k v (fun c => hn (c ▸ h))⟩
theorem Only.alloc (w : World) (o : Obj) (own : Nat → Prop) : Only w (w.alloc o) own :=
  ⟨rfl, rfl, rfl, by simp, fun k hk _ => Below.heap_alloc w o k hk⟩
theorem Only.drewN {w w' : World} {own : Nat → Prop} (h : Only w w' own) (n : Nat) : Only w (w'.drewN n) own := ⟨h.os, h.tape, h.output, h.size, h.block⟩
theorem Only.cell {w w' : World} {own : Nat → Prop} (h : Only w w' own) {a : Addr} (ha : a.block < w.heap.size) (hn : ¬ own a.block) : w'.cell? a = w.cell? a :=
  World.cell?_of_block (h.block a.block ha hn)
end Go.Proofs.Ytdalffmmkhcdaaa
