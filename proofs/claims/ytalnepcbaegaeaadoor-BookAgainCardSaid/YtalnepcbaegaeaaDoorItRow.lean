/- WALK: rows of items of the document. -/
import Derived.Test.YtalnepcbaegaeaaDoorBkState
import Derived.Test.YtalnepcbaegaeaaDoorSimPlaysPlain
import Derived.Laws.AppendOwnNone
import Derived.Laws.StructEq
set_option linter.unusedVariables false
set_option linter.unusedSimpArgs false
namespace Go.Proofs.YtalnepcbaegaeaaDoor
open Go Go.RowKit SimPlain HeapPlain BookPlain

/-! ### rows of items of the document -/
def e2Vals (e : Ev) : List Value := [.int .i64 e.t, .int .i64 e.id]
def flat2 (l : List Ev) : List Value := l.flatMap e2Vals
theorem flat2_length (l : List Ev) : (flat2 l).length = l.length * 2 := by
  induction l with
  | nil => rfl
  | cons p l ih => simp only [flat2, List.flatMap_cons, List.length_append, List.length_cons] at ih ⊢; rw [ih]; simp [e2Vals]; omega
theorem flat2_append (l l' : List Ev) : flat2 (l ++ l') = flat2 l ++ flat2 l' := by simp [flat2]
theorem flat2_get (l : List Ev) : ∀ (i f : Nat), i < l.length → f < 2 → (flat2 l)[i * 2 + f]? = (e2Vals (l.getD i e0))[f]? := by
  induction l with
  | nil => intro i f h; simp at h
  | cons p l ih =>
    intro i f h hf
    have hl : (e2Vals p).length = 2 := rfl
    rw [show flat2 (p :: l) = e2Vals p ++ flat2 l from rfl]
    cases i with
    | zero => rw [Nat.zero_mul, Nat.zero_add, List.getElem?_append_left (by omega)]; rfl
    | succ i =>
      rw [List.getElem?_append_right (by omega), hl, show (i + 1) * 2 + f - 2 = i * 2 + f by omega, ih i f (by simpa using h) hf]; rfl
def EtOwn (w : World) (B : Nat) (a : Option Addr) (cap : Nat) (l : List Ev) : Prop := w.ownsRow B 28 2 (.slice a l.length cap) l.length (flat2 l)
theorem EtOwn.nil (w : World) (B : Nat) : EtOwn w B none 0 [] := World.ownsRow_nil _ _ _ _
theorem EtOwn.lt {w : World} {B : Nat} {a : Option Addr} {cap : Nat} {l : List Ev} (h : EtOwn w B a cap l) : ∀ k, (Value.slice a l.length cap).ownBlock = some k → B ≤ k ∧ k < w.heap.size := World.ownsRow.lt h
theorem EtOwn.of {w : World} {B : Nat} {v : Value} {n : Nat} {l : List Ev} (h : w.ownsRow B 28 2 v n (flat2 l)) : ∃ a cap, v = .slice a l.length cap ∧ EtOwn w B a cap l := by
  have hn : n = l.length := by have := h.1; rw [flat2_length] at this; omega
  subst hn
  rcases h.2 with ⟨rfl, h0⟩ | ⟨g, cap, cur, rfl, _⟩
  · exact ⟨none, 0, by rw [h0], by unfold EtOwn; rw [h0] at h ⊢; exact h⟩
  · exact ⟨_, _, rfl, h⟩
theorem EtOwn.same {w w' : World} {B : Nat} {a : Option Addr} {cap : Nat} {l : List Ev} (h : EtOwn w B a cap l) (hw : ∀ k, (Value.slice a l.length cap).ownBlock = some k → w'.heap[k]? = w.heap[k]?) : EtOwn w' B a cap l := by
  refine ⟨h.1, ?_⟩
  rcases h.2 with h2 | ⟨g, cap', cur, h', hb, hg, hr⟩
  · exact .inl h2
  · refine .inr ⟨g, cap', cur, h', hb, ?_, hr⟩
    rw [hw g (by rw [h']; rfl)]; exact hg
theorem EtOwn.only {w w' : World} {B : Nat} {a : Option Addr} {cap : Nat} {l : List Ev} {own : Nat → Prop} (h : EtOwn w B a cap l) (o : Only w w' own) (hB : ∀ k, own k → k < B) : EtOwn w' B a cap l :=
  h.same fun k hk => o.block k (h.lt k hk).2 fun c => by have := hB k c; have := (h.lt k hk).1; omega
/-- an event of a row -/
theorem EtOwn.open {w : World} {B : Nat} {a : Option Addr} {cap : Nat} {l : List Ev} (h : EtOwn w B a cap l) (h0 : 0 < l.length) :
    ∃ g, a = some ⟨g, 0, none⟩ ∧ B ≤ g ∧ g < w.heap.size ∧ ∀ i, i < l.length → w.cell? ⟨g, i * 2, none⟩ = some (.int .i64 (l.getD i e0).t) ∧ w.cell? ⟨g, i * 2 + 1, none⟩ = some (.int .i64 (l.getD i e0).id) := by
  rcases h.2 with ⟨h', hz⟩ | ⟨g, cap', cur, h', hb, hg, hc, _, hs, ht⟩
  · omega
  · simp only [Value.slice.injEq, true_and] at h'
    obtain ⟨rfl, rfl⟩ := h'
    refine ⟨g, rfl, hb, lt_of_block hg, fun i hi => ?_⟩
    have key : ∀ f, f < 2 → ∀ v, (e2Vals (l.getD i e0))[f]? = some v → w.cell? ⟨g, i * 2 + f, none⟩ = some v := by
      intro f hf v hv
      rw [← flat2_get l i f hi hf, ← ht, List.getElem?_take_of_lt (by omega)] at hv
      simp only [Array.getElem?_toList] at hv
      simp [World.cell?, hg, hv]
    exact ⟨key 0 (by omega) _ rfl, key 1 (by omega) _ rfl⟩
theorem etInfo : (Tryd.prog.info? 28).map (fun i => (i.zero, i.size, i.bytes)) = some (some (.agg #[.int .i64 0, .int .i64 0]), 2, 16) := by kernel_rfl
theorem et_cells_new (w : World) (x y : Int) (t : TypeId) (g : Nat) (hg : g = w.heap.size) : ∀ j u, [Value.int .i64 x, .int .i64 y][j]? = some u → (w.alloc (.cells #[.int .i64 x, .int .i64 y] t)).cell? ((⟨g, 0, none⟩ : Addr).add j) = some u := by
  subst hg
  intro j u hj
  have hb := heap_alloc_new w (.cells #[.int .i64 x, .int .i64 y] t)
  have hj' : (#[Value.int .i64 x, .int .i64 y] : Array Value)[j]? = some u := by rw [← Array.getElem?_toList]; exact hj
  have e : ((⟨w.heap.size, 0, none⟩ : Addr).add j) = ⟨w.heap.size, j, none⟩ := by unfold Addr.add; split <;> simp_all
  rw [e]
  simp only [World.cell?, hb]; exact hj'

/-- the cells of a stretch of a row -/
theorem EtOwn.from {w : World} {B g cap : Nat} {l : List Ev} (h : EtOwn w B (some ⟨g, 0, none⟩) cap l) (n m : Nat) (hnm : n + m ≤ l.length) : ∀ j u, (flat2 ((l.drop n).take m))[j]? = some u → w.cell? ((⟨g, n * 2, none⟩ : Addr).add j) = some u := by
  intro j u hu
  by_cases h0 : 0 < l.length
  · obtain ⟨g', e, _, _, hc⟩ := h.open h0
    obtain rfl : g = g' := by simpa using e
    have hlen : (flat2 ((l.drop n).take m)).length = m * 2 := by rw [flat2_length, List.length_take, List.length_drop]; omega
    have hj : j < m * 2 := by
      rcases Nat.lt_or_ge j (m * 2) with c | c
      · exact c
      · rw [List.getElem?_eq_none (by omega)] at hu; cases hu
    have hi : n + j / 2 < l.length := by omega
    have e1 : (flat2 ((l.drop n).take m))[j / 2 * 2 + j % 2]? = (e2Vals (((l.drop n).take m).getD (j / 2) e0))[j % 2]? := flat2_get _ _ _ (by rw [List.length_take, List.length_drop]; omega) (by omega)
    rw [show j / 2 * 2 + j % 2 = j by omega, hu] at e1
    have e2 : ((l.drop n).take m).getD (j / 2) e0 = l.getD (n + j / 2) e0 := by
      rw [List.getD_eq_getElem?_getD, List.getElem?_take_of_lt (by omega), List.getElem?_drop, ← List.getD_eq_getElem?_getD]
    rw [e2] at e1
    have e3 : (⟨g, n * 2, none⟩ : Addr).add j = ⟨g, n * 2 + j, none⟩ := by unfold Addr.add; split <;> simp_all
    rw [e3]
    obtain ⟨c0, c1⟩ := hc (n + j / 2) hi
    have hj2 : j % 2 = 0 ∨ j % 2 = 1 := by omega
    rcases hj2 with d | d
    · rw [show n * 2 + j = (n + j / 2) * 2 by omega, c0]
      rw [d] at e1
      simpa [e2Vals] using e1.symm
    · rw [show n * 2 + j = (n + j / 2) * 2 + 1 by omega, c1]
      rw [d] at e1
      simpa [e2Vals] using e1.symm
  · have : l = [] := List.eq_nil_of_length_eq_zero (by omega)
    subst this
    simp [flat2] at hu
theorem EtOwn.room {w : World} {B g cap : Nat} {l : List Ev} (h : EtOwn w B (some ⟨g, 0, none⟩) cap l) : l.length ≤ cap ∧ cap ≤ maxLen := by
  rcases h.2 with ⟨h', _⟩ | ⟨g', cap', cur, h', _, _, hc, hm, _⟩
  · simp at h'
  · simp only [Value.slice.injEq, true_and] at h'
    obtain ⟨-, rfl⟩ := h'
    exact ⟨hc, hm⟩
theorem one_cells2 (l : List Ev) : ∀ u ∈ flat2 l, u.oneCell' = true := by
  intro u hu
  obtain ⟨e, _, he⟩ := List.mem_flatMap.1 hu
  simp only [e2Vals, List.mem_cons, List.not_mem_nil, or_false] at he
  rcases he with rfl | rfl <;> rfl
theorem grown_below {w w' : World} {r : Option Nat} {B : Nat} (h : w.grownBy w' r) (hB : B ≤ w.heap.size) (hr : ∀ k, r = some k → B ≤ k) : Below B w w' :=
  ⟨h.os, h.tape, h.output, h.size, fun k hk => h.block k (by omega) fun e => by have := hr k e.symm; omega⟩
theorem mul2_wrap (k : Nat) (h : k ≤ 1000) : ((k : Int) + 1) = ((k + 1 : Nat) : Int) := by omega
def WithoutRes (l : List Ev) (k : Nat) (w : World) (e : Ending) (w' : World) : Prop :=
  ∃ a' c', e = .returned (.slice a' (l.eraseIdx k).length c') ∧ EtOwn w' w.heap.size a' c' (l.eraseIdx k) ∧ Below w.heap.size w w'
theorem without_post {l : List Ev} {k : Nat} {w w1 w2 : World} {v1 v2 : Value} (hk : k < l.length) (o1 : w1.ownsRow w.heap.size 28 2 v1 (0 + k) ([] ++ flat2 (l.take k))) (g1 : w.grownBy w1 (Value.slice none 0 0).ownBlock)
    (o2 : w2.ownsRow w.heap.size 28 2 v2 (0 + k + (l.length - (k + 1))) ([] ++ flat2 (l.take k) ++ flat2 ((l.drop (k + 1)).take (l.length - (k + 1))))) (g2 : w1.grownBy w2 v1.ownBlock) : WithoutRes l k w (.returned v2) w2 := by
  rw [show (l.drop (k + 1)).take (l.length - (k + 1)) = l.drop (k + 1) from List.take_of_length_le (by rw [List.length_drop]; omega), List.nil_append, ← flat2_append, without_eq] at o2
  obtain ⟨a', c', rfl, h⟩ := EtOwn.of o2
  refine ⟨a', c', rfl, h, (grown_below g1 (Nat.le_refl _) (fun k hk => by simp [Value.ownBlock] at hk)).trans (grown_below g2 g1.size (fun j hj => (World.ownsRow.lt o1 j hj).1))⟩
theorem EtOwn.mono {w : World} {B B' : Nat} {a : Option Addr} {cap : Nat} {l : List Ev} (h : EtOwn w B a cap l) (hB : B' ≤ B) : EtOwn w B' a cap l := by
  refine ⟨h.1, ?_⟩
  rcases h.2 with h | ⟨g, c, cur, h1, h2, h3⟩
  · exact .inl h
  · exact .inr ⟨g, c, cur, h1, by omega, h3⟩
end Go.Proofs.YtalnepcbaegaeaaDoor
