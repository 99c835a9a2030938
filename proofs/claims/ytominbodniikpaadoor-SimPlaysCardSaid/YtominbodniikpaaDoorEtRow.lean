/- WALK: rows of events that are told. -/
import Derived.Test.YtominbodniikpaaDoorSimState
namespace Go.Proofs.YtominbodniikpaaDoor
open Go Go.RowKit SimPlain HeapPlain

/-! ### rows of events that are told -/
def e2Vals (e : Ev) : List Value := [.int .i64 e.t, .int .i64 e.id]
def flat2 (l : List Ev) : List Value := l.flatMap e2Vals
theorem flat2_length (l : List Ev) : (flat2 l).length = l.length * 2 := by
  induction l with
  | nil => rfl
  | cons p l ih => simp only [flat2, List.flatMap_cons, List.length_append, List.length_cons] at ih ⊢; rw [ih]; simp [e2Vals]; omega
theorem flat2_append (l l' : List Ev) : flat2 (l ++ l') = flat2 l ++ flat2 l' := by simp [flat2]
theorem flat2_get (l : List Ev) : ∀ (i f : Nat), i < l.length → f < 2 → (flat2 l)[i * 2 + f]? = (e2Vals (l.getD i e0))[f]? := by
  induction l with
  | nil => intro i f h; simp at h
  | cons p l ih =>
    intro i f h hf
    have hl : (e2Vals p).length = 2 := rfl
    rw [show flat2 (p :: l) = e2Vals p ++ flat2 l from rfl]
    cases i with
    | zero => rw [Nat.zero_mul, Nat.zero_add, List.getElem?_append_left (by omega)]; rfl
    | succ i =>
      rw [List.getElem?_append_right (by omega), hl, show (i + 1) * 2 + f - 2 = i * 2 + f by omega, ih i f (by simpa using h) hf]; rfl
def EtOwn (w : World) (B : Nat) (a : Option Addr) (cap : Nat) (l : List Ev) : Prop := w.ownsRow B 28 2 (.slice a l.length cap) l.length (flat2 l)
theorem EtOwn.nil (w : World) (B : Nat) : EtOwn w B none 0 [] := World.ownsRow_nil _ _ _ _
theorem EtOwn.lt {w : World} {B : Nat} {a : Option Addr} {cap : Nat} {l : List Ev} (h : EtOwn w B a cap l) : ∀ k, (Value.slice a l.length cap).ownBlock = some k → B ≤ k ∧ k < w.heap.size := World.ownsRow.lt h
theorem EtOwn.of {w : World} {B : Nat} {v : Value} {n : Nat} {l : List Ev} (h : w.ownsRow B 28 2 v n (flat2 l)) : ∃ a cap, v = .slice a l.length cap ∧ EtOwn w B a cap l := by
  have hn : n = l.length := by have := h.1; rw [flat2_length] at this; omega
  subst hn
  rcases h.2 with ⟨rfl, h0⟩ | ⟨g, cap, cur, rfl, _⟩
  · exact ⟨none, 0, by rw [h0], by unfold EtOwn; rw [h0] at h ⊢; exact h⟩
  · exact ⟨_, _, rfl, h⟩
theorem EtOwn.same {w w' : World} {B : Nat} {a : Option Addr} {cap : Nat} {l : List Ev} (h : EtOwn w B a cap l) (hw : ∀ k, (Value.slice a l.length cap).ownBlock = some k → w'.heap[k]? = w.heap[k]?) : EtOwn w' B a cap l := by
  refine ⟨h.1, ?_⟩
  rcases h.2 with h2 | ⟨g, cap', cur, h', hb, hg, hr⟩
  · exact .inl h2
  · refine .inr ⟨g, cap', cur, h', hb, ?_, hr⟩
    rw [hw g (by rw [h']; rfl)]; exact hg
theorem EtOwn.only {w w' : World} {B : Nat} {a : Option Addr} {cap : Nat} {l : List Ev} {own : Nat → Prop} (h : EtOwn w B a cap l) (o : Only w w' own) (hB : ∀ k, own k → k < B) : EtOwn w' B a cap l :=
  h.same fun k hk => o.block k (h.lt k hk).2 fun c => by have := hB k c; have := (h.lt k hk).1; omega
/-- an event of a row -/
theorem EtOwn.open {w : World} {B : Nat} {a : Option Addr} {cap : Nat} {l : List Ev} (h : EtOwn w B a cap l) (h0 : 0 < l.length) :
    ∃ g, a = some ⟨g, 0, none⟩ ∧ B ≤ g ∧ g < w.heap.size ∧ ∀ i, i < l.length → w.cell? ⟨g, i * 2, none⟩ = some (.int .i64 (l.getD i e0).t) ∧ w.cell? ⟨g, i * 2 + 1, none⟩ = some (.int .i64 (l.getD i e0).id) := by
  rcases h.2 with ⟨h', hz⟩ | ⟨g, cap', cur, h', hb, hg, hc, _, hs, ht⟩
  · omega
  · simp only [Value.slice.injEq, true_and] at h'
    obtain ⟨rfl, rfl⟩ := h'
    refine ⟨g, rfl, hb, lt_of_block hg, fun i hi => ?_⟩
    have key : ∀ f, f < 2 → ∀ v, (e2Vals (l.getD i e0))[f]? = some v → w.cell? ⟨g, i * 2 + f, none⟩ = some v := by
      intro f hf v hv
      rw [← flat2_get l i f hi hf, ← ht, List.getElem?_take_of_lt (by omega)] at hv
      simp only [Array.getElem?_toList] at hv
      simp [World.cell?, hg, hv]
    exact ⟨key 0 (by omega) _ rfl, key 1 (by omega) _ rfl⟩
theorem etInfo : (Tryd.prog.info? 28).map (fun i => (i.zero, i.size, i.bytes)) = some (some (.agg #[.int .i64 0, .int .i64 0]), 2, 16) := by kernel_rfl
theorem et_cells_new (w : World) (x y : Int) (t : TypeId) (g : Nat) (hg : g = w.heap.size) : ∀ j u, [Value.int .i64 x, .int .i64 y][j]? = some u → (w.alloc (.cells #[.int .i64 x, .int .i64 y] t)).cell? ((⟨g, 0, none⟩ : Addr).add j) = some u := by
  subst hg
  intro j u hj
  have hb := heap_alloc_new w (.cells #[.int .i64 x, .int .i64 y] t)
  have hj' : (#[Value.int .i64 x, .int .i64 y] : Array Value)[j]? = some u := by rw [← Array.getElem?_toList]; exact hj
  have e : ((⟨w.heap.size, 0, none⟩ : Addr).add j) = ⟨w.heap.size, j, none⟩ := by unfold Addr.add; split <;> simp_all
  rw [e]
  simp only [World.cell?, hb]; exact hj'

end Go.Proofs.YtominbodniikpaaDoor
