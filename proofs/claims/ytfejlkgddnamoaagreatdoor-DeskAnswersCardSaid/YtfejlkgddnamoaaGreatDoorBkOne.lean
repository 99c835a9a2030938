/- WALK: two items compared; how long a line is. PLAIN: what is planned as a list in the order of the planning, beside the one by time (no program in sight). WALK: rows of items of the document. a book in a state: one push, one pop. PLAIN LAW: a list has one sorted order (no program in sight). WALK: a push into a book in a state, whatever the item. -/
import Derived.Test.YtfejlkgddnamoaaGreatDoorBkPushB
import Derived.Test.YtfejlkgddnamoaaGreatDoorBkNext
import Derived.Deep.DeepCutAuto
import Derived.Laws.StructEq
import Derived.Test.YtfejlkgddnamoaaGreatDoorSimQ
import Derived.Test.YtfejlkgddnamoaaGreatDoorBkState
import Derived.Laws.AppendOwnNone
import Derived.Maps.AppendAt
set_option linter.unusedVariables false
set_option linter.unusedSimpArgs false
section
namespace Go.Proofs.YtfejlkgddnamoaaGreatDoor
open Go Go.RowKit SimPlain HeapPlain BookPlain

theorem item_guard (op : BinOp) (x y : Operand) (xs ys : Array Value) (w : World) : (eqGuard op 30 x y (.agg xs) (.agg ys)).run Tryz.prog w = .ok () w := run_eqGuard_agg w op _ x y xs ys (by kernel_rfl)

theorem item_neq (t id : Int) (w : World) : (binOp .neq 30 (.agg #[.int .i64 t, .int .i64 id]) (.agg #[.int .i64 t, .int .i64 id])).run Tryz.prog w = .ok (.bool false) w := by
  have u3 := Tryz.underlying3
  have a3 := Tryz.isAgg3
  have z3 := Tryz.sizeOf3
  have hS : Tryz.prog.underlying 30 = some (.struct (Tryz.prog.fieldsOf 30)) := by kernel_rfl
  have hp : Tryz.prog.stoodInHeld 30 = false := by kernel_rfl
  rw [run_neq_struct, show (10000 : Nat) = 9999 + 1 from rfl, run_equalIn_agg w 9999 30 _ _ hS hp]
  simp only [Program.fieldsOf, Tryz.underlying30]
  go_simp
theorem lineB_len (s : List UInt8) (h : s.length ≤ 60) : (lineB s).length ≤ 90 := by
  unfold lineB
  have := itoa_len (sumB s : Nat) (by omega) (by have := sumAt_lt s s.length; unfold sumB; omega)
  simp; omega
theorem pushB_len (t id : Int) (h0 : -1000000 ≤ t) (h1 : t ≤ 1000000) (d0 : 0 ≤ id) (d1 : id ≤ 1000000) : (pushB t id).length ≤ 60 := by
  unfold pushB
  have := itoa_len t (by omega) (by omega)
  have := itoa_len id (by omega) (by omega)
  simp; omega
theorem BookQ.grow {w : World} {B S : Nat} {F : Nat → Prop} {q : List Ev} {seq : Int} {T : List UInt8} (h : BookQ w B S F q seq T) (W : World) (hB : B ≤ W.heap.size) : BookQ w B S (Grow F W w) q seq T := by
  obtain ⟨H, a, cap, l, p, v, g⟩ := h
  exact ⟨H, a, cap, l, p, v, ⟨g.heap, g.ord, g.perm, g.sorted, g.top, g.s, g.pp, g.txt, g.tn, g.sep, fun k hk => .inl (g.foot k hk), .inl g.fs, fun k hk => .inl (g.fv k hk), fun k hk => by
    rcases hk with hk | hk
    · exact g.fb k hk
    · omega⟩⟩
end Go.Proofs.YtfejlkgddnamoaaGreatDoor
end

section
namespace SimPlain

/-- a list in the order of the planning, and what is planned by time -/
structure Two (l q : List Ev) (seq : Int) : Prop where
  perm : q.Perm l
  sorted : q.Pairwise Lt
  up : l.Pairwise fun a b => a.s < b.s
  top : ∀ e ∈ l, e.s ≤ seq
theorem Two.zero : Two [] [] 0 := ⟨List.Perm.refl _, List.Pairwise.nil, List.Pairwise.nil, by simp⟩
theorem Two.len {l q : List Ev} {seq : Int} (h : Two l q seq) : q.length = l.length := h.perm.length_eq
/-- of the least time the one that stands first -/
structure IsFirst (l : List Ev) (k : Nat) : Prop where
  lt : k < l.length
  least : ∀ j, j < l.length → (l.getD k e0).t ≤ (l.getD j e0).t
  first : ∀ j, j < k → (l.getD k e0).t < (l.getD j e0).t
theorem at_getD {l : List Ev} {k : Nat} (h : k < l.length) : l.getD k e0 = l[k] := by rw [List.getD_eq_getElem?_getD, List.getElem?_eq_getElem h]; rfl
theorem Two.first {l q : List Ev} {seq : Int} (h : Two l q seq) {k : Nat} (hk : IsFirst l k) : ∃ q', q = l.getD k e0 :: q' ∧ Two (l.eraseIdx k) q' seq := by
  have hl := hk.lt
  have hx : l.getD k e0 ∈ l := by rw [at_getD hl]; exact List.getElem_mem hl
  have hless : ∀ e ∈ l, e ≠ l.getD k e0 → Lt (l.getD k e0) e := fun e he hne => by
    obtain ⟨j, hj, rfl⟩ := List.mem_iff_getElem.1 he
    have h1 := hk.least j hj
    rw [at_getD hj] at h1
    rcases Nat.lt_trichotomy j k with c | c | c
    · have h2 := hk.first j c
      rw [at_getD hj] at h2
      exact .inl h2
    · subst c; exact absurd (at_getD hj).symm hne
    · have h2 := List.pairwise_iff_getElem.1 h.up k j hl hj c
      rw [← at_getD hl] at h2
      unfold Lt
      omega
  rcases q with _ | ⟨y, q'⟩
  · have := h.len; simp at this; omega
  have hs := List.pairwise_cons.1 h.sorted
  have hyx : y = l.getD k e0 := by
    rcases Classical.em (y = l.getD k e0) with c | c
    · exact c
    · exfalso
      have h1 := hless y (h.perm.mem_iff.1 (by simp)) c
      have h2 := h.perm.mem_iff.2 hx
      rcases List.mem_cons.1 h2 with d | d
      · exact c d.symm
      · exact Lt.irrefl _ ((hs.1 _ d).trans h1)
  subst hyx
  refine ⟨q', rfl, ?_, hs.2, h.up.sublist (List.eraseIdx_sublist _ _), fun e he => h.top e ((List.eraseIdx_sublist _ _).mem he)⟩
  have hp : (l.getD k e0 :: l.eraseIdx k).Perm l := by
    rw [List.eraseIdx_eq_take_drop_succ]
    have e : l = l.take k ++ l.getD k e0 :: l.drop (k + 1) := by rw [at_getD hl, ← List.drop_eq_getElem_cons hl, List.take_append_drop]
    have := (List.perm_middle (l₁ := l.take k) (a := l.getD k e0) (l₂ := l.drop (k + 1))).symm
    rw [← e] at this
    exact this
  exact (h.perm.trans hp.symm).cons_inv
theorem without_eq (l : List Ev) (k : Nat) : l.take k ++ l.drop (k + 1) = l.eraseIdx k := (List.eraseIdx_eq_take_drop_succ l k).symm
theorem Two.filter {l q : List Ev} {seq : Int} (h : Two l q seq) (p : Ev → Bool) : Two (l.filter p) (q.filter p) seq :=
  ⟨h.perm.filter p, h.sorted.filter p, h.up.filter p, fun e he => h.top e (List.mem_filter.1 he).1⟩
theorem Two.plan {l q : List Ev} {seq : Int} (h : Two l q seq) (t id : Int) : Two (l ++ [⟨t, id, seq + 1⟩]) (ins ⟨t, id, seq + 1⟩ q) (seq + 1) := by
  refine ⟨(ins_perm _ _).trans ((h.perm.cons _).trans (List.perm_append_singleton _ _).symm), ins_sorted h.sorted fun x hx => ?_, List.pairwise_append.2 ⟨h.up, by simp, fun a ha b hb => ?_⟩, fun e he => ?_⟩
  · have := h.top x (h.perm.mem_iff.1 hx)
    show x.s < seq + 1
    omega
  · rw [List.mem_singleton] at hb
    subst hb
    have := h.top a ha
    show a.s < seq + 1
    omega
  · rcases List.mem_append.1 he with c | c
    · have := h.top e c; omega
    · rw [List.mem_singleton] at c
      subst c
      show seq + 1 ≤ seq + 1
      omega
/-- dropping from behind: what is left when k are still to be looked at -/
def dropAt (p : Ev → Bool) (l : List Ev) (k : Nat) : List Ev := l.take k ++ (l.drop k).filter p
theorem dropAt_all (p : Ev → Bool) (l : List Ev) : dropAt p l l.length = l := by unfold dropAt; simp
theorem dropAt_zero (p : Ev → Bool) (l : List Ev) : dropAt p l 0 = l.filter p := by unfold dropAt; simp
theorem dropAt_get (p : Ev → Bool) {l : List Ev} {k : Nat} (h : k < l.length) : (dropAt p l (k + 1)).getD k e0 = l.getD k e0 ∧ k < (dropAt p l (k + 1)).length := by
  have h1 : k < (l.take (k + 1)).length := by rw [List.length_take]; omega
  refine ⟨?_, by unfold dropAt; rw [List.length_append]; omega⟩
  unfold dropAt
  rw [List.getD_eq_getElem?_getD, List.getElem?_append_left h1, List.getElem?_take_of_lt (by omega), ← List.getD_eq_getElem?_getD]
theorem drop_consE {l : List Ev} {k : Nat} (h : k < l.length) : l.drop k = l.getD k e0 :: l.drop (k + 1) := by
  rw [List.drop_eq_getElem_cons h, at_getD h]
theorem dropAt_keep {p : Ev → Bool} {l : List Ev} {k : Nat} (h : k < l.length) (hp : p (l.getD k e0) = true) : dropAt p l k = dropAt p l (k + 1) := by
  unfold dropAt
  rw [drop_consE h, List.filter_cons, if_pos hp, List.take_add_one, List.append_assoc, List.getElem?_eq_getElem h, at_getD h]; rfl
theorem dropAt_drop {p : Ev → Bool} {l : List Ev} {k : Nat} (h : k < l.length) (hp : p (l.getD k e0) = false) : dropAt p l k = (dropAt p l (k + 1)).eraseIdx k := by
  have h1 : (l.take (k + 1)).length = k + 1 := by rw [List.length_take]; omega
  have h2 : (l.take (k + 1)).drop (k + 1) = [] := List.drop_of_length_le (by rw [h1]; exact Nat.le_refl _)
  have h3 : (l.take (k + 1)).take k = l.take k := by rw [List.take_take, Nat.min_eq_left (by omega)]
  unfold dropAt
  rw [drop_consE h, List.filter_cons, if_neg (by rw [hp]; decide), ← without_eq, List.take_append_of_le_length (by omega), List.drop_append_of_le_length (by omega), h2, h3]
  rfl
end SimPlain
end

section
namespace Go.Proofs.YtfejlkgddnamoaaGreatDoor
open Go Go.RowKit SimPlain HeapPlain BookPlain

/-! ### rows of items of the document -/
def e2Vals (e : Ev) : List Value := [.int .i64 e.t, .int .i64 e.id]
def flat2 (l : List Ev) : List Value := l.flatMap e2Vals
theorem flat2_length (l : List Ev) : (flat2 l).length = l.length * 2 := by
  induction l with
  | nil => rfl
  | cons p l ih => simp only [flat2, List.flatMap_cons, List.length_append, List.length_cons] at ih ⊢; rw [ih]; simp [e2Vals]; omega
theorem flat2_append (l l' : List Ev) : flat2 (l ++ l') = flat2 l ++ flat2 l' := by simp [flat2]
theorem flat2_get (l : List Ev) : ∀ (i f : Nat), i < l.length → f < 2 → (flat2 l)[i * 2 + f]? = (e2Vals (l.getD i e0))[f]? := by
  induction l with
  | nil => intro i f h; simp at h
  | cons p l ih =>
    intro i f h hf
    have hl : (e2Vals p).length = 2 := rfl
    rw [show flat2 (p :: l) = e2Vals p ++ flat2 l from rfl]
    cases i with
    | zero => rw [Nat.zero_mul, Nat.zero_add, List.getElem?_append_left (by omega)]; rfl
    | succ i =>
      rw [List.getElem?_append_right (by omega), hl, show (i + 1) * 2 + f - 2 = i * 2 + f by omega, ih i f (by simpa using h) hf]; rfl
def EtOwn (w : World) (B : Nat) (a : Option Addr) (cap : Nat) (l : List Ev) : Prop := w.ownsRow B 30 2 (.slice a l.length cap) l.length (flat2 l)
theorem EtOwn.nil (w : World) (B : Nat) : EtOwn w B none 0 [] := World.ownsRow_nil _ _ _ _
theorem EtOwn.lt {w : World} {B : Nat} {a : Option Addr} {cap : Nat} {l : List Ev} (h : EtOwn w B a cap l) : ∀ k, (Value.slice a l.length cap).ownBlock = some k → B ≤ k ∧ k < w.heap.size := World.ownsRow.lt h
theorem EtOwn.of {w : World} {B : Nat} {v : Value} {n : Nat} {l : List Ev} (h : w.ownsRow B 30 2 v n (flat2 l)) : ∃ a cap, v = .slice a l.length cap ∧ EtOwn w B a cap l := by
  have hn : n = l.length := by have := h.1; rw [flat2_length] at this; omega
  subst hn
  rcases h.2 with ⟨rfl, h0⟩ | ⟨g, cap, cur, rfl, _⟩
  · exact ⟨none, 0, by rw [h0], by unfold EtOwn; rw [h0] at h ⊢; exact h⟩
  · exact ⟨_, _, rfl, h⟩
theorem EtOwn.same {w w' : World} {B : Nat} {a : Option Addr} {cap : Nat} {l : List Ev} (h : EtOwn w B a cap l) (hw : ∀ k, (Value.slice a l.length cap).ownBlock = some k → w'.heap[k]? = w.heap[k]?) : EtOwn w' B a cap l := by
  refine ⟨h.1, ?_⟩
  rcases h.2 with h2 | ⟨g, cap', cur, h', hb, hg, hr⟩
  · exact .inl h2
  · refine .inr ⟨g, cap', cur, h', hb, ?_, hr⟩
    rw [hw g (by rw [h']; rfl)]; exact hg
theorem EtOwn.only {w w' : World} {B : Nat} {a : Option Addr} {cap : Nat} {l : List Ev} {own : Nat → Prop} (h : EtOwn w B a cap l) (o : Only w w' own) (hB : ∀ k, own k → k < B) : EtOwn w' B a cap l :=
  h.same fun k hk => o.block k (h.lt k hk).2 fun c => by have := hB k c; have := (h.lt k hk).1; omega
/-- an event of a row -/
theorem EtOwn.open {w : World} {B : Nat} {a : Option Addr} {cap : Nat} {l : List Ev} (h : EtOwn w B a cap l) (h0 : 0 < l.length) :
    ∃ g, a = some ⟨g, 0, none⟩ ∧ B ≤ g ∧ g < w.heap.size ∧ ∀ i, i < l.length → w.cell? ⟨g, i * 2, none⟩ = some (.int .i64 (l.getD i e0).t) ∧ w.cell? ⟨g, i * 2 + 1, none⟩ = some (.int .i64 (l.getD i e0).id) := by
  rcases h.2 with ⟨h', hz⟩ | ⟨g, cap', cur, h', hb, hg, hc, _, hs, ht⟩
  · omega
  · simp only [Value.slice.injEq, true_and] at h'
    obtain ⟨rfl, rfl⟩ := h'
    refine ⟨g, rfl, hb, lt_of_block hg, fun i hi => ?_⟩
    have key : ∀ f, f < 2 → ∀ v, (e2Vals (l.getD i e0))[f]? = some v → w.cell? ⟨g, i * 2 + f, none⟩ = some v := by
      intro f hf v hv
      rw [← flat2_get l i f hi hf, ← ht, List.getElem?_take_of_lt (by omega)] at hv
      simp only [Array.getElem?_toList] at hv
      simp [World.cell?, hg, hv]
    exact ⟨key 0 (by omega) _ rfl, key 1 (by omega) _ rfl⟩
theorem etInfo : (Tryz.prog.info? 30).map (fun i => (i.zero, i.size, i.bytes)) = some (some (.agg #[.int .i64 0, .int .i64 0]), 2, 16) := by kernel_rfl
theorem et_cells_new (w : World) (x y : Int) (t : TypeId) (g : Nat) (hg : g = w.heap.size) : ∀ j u, [Value.int .i64 x, .int .i64 y][j]? = some u → (w.alloc (.cells #[.int .i64 x, .int .i64 y] t)).cell? ((⟨g, 0, none⟩ : Addr).add j) = some u := by
  subst hg
  intro j u hj
  have hb := heap_alloc_new w (.cells #[.int .i64 x, .int .i64 y] t)
  have hj' : (#[Value.int .i64 x, .int .i64 y] : Array Value)[j]? = some u := by rw [← Array.getElem?_toList]; exact hj
  have e : ((⟨w.heap.size, 0, none⟩ : Addr).add j) = ⟨w.heap.size, j, none⟩ := by unfold Addr.add; split <;> simp_all
  rw [e]
  simp only [World.cell?, hb]; exact hj'

/-- the cells of a stretch of a row -/
theorem EtOwn.from {w : World} {B g cap : Nat} {l : List Ev} (h : EtOwn w B (some ⟨g, 0, none⟩) cap l) (n m : Nat) (hnm : n + m ≤ l.length) : ∀ j u, (flat2 ((l.drop n).take m))[j]? = some u → w.cell? ((⟨g, n * 2, none⟩ : Addr).add j) = some u := by
  intro j u hu
  by_cases h0 : 0 < l.length
  · obtain ⟨g', e, _, _, hc⟩ := h.open h0
    obtain rfl : g = g' := by simpa using e
    have hlen : (flat2 ((l.drop n).take m)).length = m * 2 := by rw [flat2_length, List.length_take, List.length_drop]; omega
    have hj : j < m * 2 := by
      rcases Nat.lt_or_ge j (m * 2) with c | c
      · exact c
      · rw [List.getElem?_eq_none (by omega)] at hu; cases hu
    have hi : n + j / 2 < l.length := by omega
    have e1 : (flat2 ((l.drop n).take m))[j / 2 * 2 + j % 2]? = (e2Vals (((l.drop n).take m).getD (j / 2) e0))[j % 2]? := flat2_get _ _ _ (by rw [List.length_take, List.length_drop]; omega) (by omega)
    rw [show j / 2 * 2 + j % 2 = j by omega, hu] at e1
    have e2 : ((l.drop n).take m).getD (j / 2) e0 = l.getD (n + j / 2) e0 := by
      rw [List.getD_eq_getElem?_getD, List.getElem?_take_of_lt (by omega), List.getElem?_drop, ← List.getD_eq_getElem?_getD]
    rw [e2] at e1
    have e3 : (⟨g, n * 2, none⟩ : Addr).add j = ⟨g, n * 2 + j, none⟩ := by unfold Addr.add; split <;> simp_all
    rw [e3]
    obtain ⟨c0, c1⟩ := hc (n + j / 2) hi
    have hj2 : j % 2 = 0 ∨ j % 2 = 1 := by omega
    rcases hj2 with d | d
    · rw [show n * 2 + j = (n + j / 2) * 2 by omega, c0]
      rw [d] at e1
      simpa [e2Vals] using e1.symm
    · rw [show n * 2 + j = (n + j / 2) * 2 + 1 by omega, c1]
      rw [d] at e1
      simpa [e2Vals] using e1.symm
  · have : l = [] := List.eq_nil_of_length_eq_zero (by omega)
    subst this
    simp [flat2] at hu
theorem EtOwn.room {w : World} {B g cap : Nat} {l : List Ev} (h : EtOwn w B (some ⟨g, 0, none⟩) cap l) : l.length ≤ cap ∧ cap ≤ maxLen := by
  rcases h.2 with ⟨h', _⟩ | ⟨g', cap', cur, h', _, _, hc, hm, _⟩
  · simp at h'
  · simp only [Value.slice.injEq, true_and] at h'
    obtain ⟨-, rfl⟩ := h'
    exact ⟨hc, hm⟩
theorem one_cells2 (l : List Ev) : ∀ u ∈ flat2 l, u.oneCell' = true := by
  intro u hu
  obtain ⟨e, _, he⟩ := List.mem_flatMap.1 hu
  simp only [e2Vals, List.mem_cons, List.not_mem_nil, or_false] at he
  rcases he with rfl | rfl <;> rfl
theorem grown_below {w w' : World} {r : Option Nat} {B : Nat} (h : w.grownBy w' r) (hB : B ≤ w.heap.size) (hr : ∀ k, r = some k → B ≤ k) : Below B w w' :=
  ⟨h.os, h.tape, h.output, h.size, fun k hk => h.block k (by omega) fun e => by have := hr k e.symm; omega⟩
theorem mul2_wrap (k : Nat) (h : k ≤ 1000) : ((k : Int) + 1) = ((k + 1 : Nat) : Int) := by omega
def WithoutRes (l : List Ev) (k : Nat) (w : World) (e : Ending) (w' : World) : Prop :=
  ∃ a' c', e = .returned (.slice a' (l.eraseIdx k).length c') ∧ EtOwn w' w.heap.size a' c' (l.eraseIdx k) ∧ Below w.heap.size w w'
theorem without_post {l : List Ev} {k : Nat} {w w1 w2 : World} {v1 v2 : Value} (hk : k < l.length) (o1 : w1.ownsRow w.heap.size 30 2 v1 (0 + k) ([] ++ flat2 (l.take k))) (g1 : w.grownBy w1 (Value.slice none 0 0).ownBlock)
    (o2 : w2.ownsRow w.heap.size 30 2 v2 (0 + k + (l.length - (k + 1))) ([] ++ flat2 (l.take k) ++ flat2 ((l.drop (k + 1)).take (l.length - (k + 1))))) (g2 : w1.grownBy w2 v1.ownBlock) : WithoutRes l k w (.returned v2) w2 := by
  rw [show (l.drop (k + 1)).take (l.length - (k + 1)) = l.drop (k + 1) from List.take_of_length_le (by rw [List.length_drop]; omega), List.nil_append, ← flat2_append, without_eq] at o2
  obtain ⟨a', c', rfl, h⟩ := EtOwn.of o2
  refine ⟨a', c', rfl, h, (grown_below g1 (Nat.le_refl _) (fun k hk => by simp [Value.ownBlock] at hk)).trans (grown_below g2 g1.size (fun j hj => (World.ownsRow.lt o1 j hj).1))⟩
theorem EtOwn.mono {w : World} {B B' : Nat} {a : Option Addr} {cap : Nat} {l : List Ev} (h : EtOwn w B a cap l) (hB : B' ≤ B) : EtOwn w B' a cap l := by
  refine ⟨h.1, ?_⟩
  rcases h.2 with h | ⟨g, c, cur, h1, h2, h3⟩
  · exact .inl h
  · exact .inr ⟨g, c, cur, h1, by omega, h3⟩
end Go.Proofs.YtfejlkgddnamoaaGreatDoor
end

section
namespace Go.Proofs.YtfejlkgddnamoaaGreatDoor
open Go Go.RowKit SimPlain HeapPlain BookPlain

/-- the state of a book: what waits, how many were pushed, what was written -/
structure St where
  q : List Ev
  seq : Int
  T : List UInt8
def stepB (s : St) (e : Ev) : St :=
  if e.id = 7 then (match s.q with | [] => s | _ :: q => ⟨q, s.seq, s.T ++ lineB popB⟩)
  else if okE ⟨e.t, e.id, 0⟩ = true then (if s.q.length < 60 then ⟨ins ⟨e.t, e.id, s.seq + 1⟩ s.q, s.seq + 1, s.T ++ lineB (pushB e.t e.id)⟩ else s) else s
def toldB (l : List Ev) : St := l.foldl stepB ⟨[], 0, []⟩
/-- a book in a state -/
structure BookS (w : World) (B S : Nat) (F : Nat → Prop) (s : St) (i : Nat) : Prop where
  book : BookQ w B S F s.q s.seq s.T
  many : s.q.length ≤ 60
  lo : 0 ≤ s.seq
  hi : s.seq ≤ (i : Int)
  txt : s.T.length ≤ 100 * i
theorem BookS.push {w : World} {B S : Nat} {F : Nat → Prop} {s : St} {i : Nat} (h : BookS w B S F s i) (hi : i ≤ 1100000) (hB : B ≤ w.heap.size) (hB2 : 3 < B) (ht : Tab w) (key id : Int) (h7 : id ≠ 7) :
    Calls Tryz.prog 9 #[.pointer (some ⟨S, 0, none⟩), .agg #[.int .i64 key, .int .i64 id]] w fun e w' => ∃ code, e = .returned (errV 56 code) ∧ BookS w' B S (Grow F w w') (stepB s ⟨key, id, 0⟩) (i + 1) ∧ Only w w' F := by
  cases hok : okE ⟨key, id, 0⟩ with
  | false =>
    have e : stepB s ⟨key, id, 0⟩ = s := by unfold stepB; rw [if_neg h7, if_neg (by rw [hok]; decide)]
    rw [e]
    refine (BPush_bad S B F s.q s.seq s.T key id w hok).mono ?_
    rintro e w' ⟨rfl, b⟩
    exact ⟨1, by rw [errV_bad (by decide)], ⟨(h.book.only (only_of_below b (fun _ => False)) (fun _ _ c => c)).grow w hB, h.many, h.lo, by have := h.hi; omega, by have := h.txt; omega⟩, only_of_below b F⟩
  | true =>
    rcases Nat.lt_or_ge s.q.length 60 with h60 | h60
    · obtain ⟨t0, t1, d0, d1⟩ := okE_of hok
      have hpl := lineB_len (pushB key id) (pushB_len key id t0 t1 d0 d1)
      have e : stepB s ⟨key, id, 0⟩ = ⟨ins ⟨key, id, s.seq + 1⟩ s.q, s.seq + 1, s.T ++ lineB (pushB key id)⟩ := by unfold stepB; rw [if_neg h7, if_pos hok, if_pos h60]
      rw [e]
      refine (BPush_ok S B F s.q s.seq s.T key id w h.book hok h60 hB ht (by have := h.hi; have := h.txt; have := h.lo; omega) (by have := h.hi; have := h.txt; have := h.lo; omega) hB2).mono ?_
      rintro e w' ⟨rfl, hq, ho⟩
      exact ⟨0, by rw [errV_ok], ⟨hq, by rw [(ins_perm _ _).length_eq]; simp; omega, by have := h.lo; show 0 ≤ s.seq + 1; omega, by have := h.hi; show s.seq + 1 ≤ _; omega, by have := h.txt; rw [List.length_append]; omega⟩, ho⟩
    · have e : stepB s ⟨key, id, 0⟩ = s := by unfold stepB; rw [if_neg h7, if_pos hok, if_neg (by omega)]
      rw [e]
      refine (BPush_full S B F s.q s.seq s.T key id w h.book hok (by have := h.many; omega)).mono ?_
      rintro e w' ⟨rfl, b⟩
      exact ⟨4, by rw [errV_bad (by decide)], ⟨(h.book.only (only_of_below b (fun _ => False)) (fun _ _ c => c)).grow w hB, h.many, h.lo, by have := h.hi; omega, by have := h.txt; omega⟩, only_of_below b F⟩
theorem BookS.pop {w : World} {B S : Nat} {F : Nat → Prop} {s : St} {i : Nat} (h : BookS w B S F s i) (hi : i ≤ 1100000) (hB : B ≤ w.heap.size) (ht : Tab w) (key : Int) :
    Calls Tryz.prog 14 #[.pointer (some ⟨S, 0, none⟩)] w fun e w' => ∃ v, e = .returned v ∧ BookS w' B S (Grow F w w') (stepB s ⟨key, 7, 0⟩) (i + 1) ∧ Only w w' F := by
  obtain ⟨q, seq, T⟩ := s
  obtain ⟨hq, hm, hl, hh, hx⟩ := h
  simp only at hq hm hl hh hx
  cases q with
  | nil =>
    refine (BPop_none S B F seq T w hq).mono ?_
    rintro e w' ⟨rfl, b⟩
    exact ⟨_, rfl, ⟨(hq.only (only_of_below b (fun _ => False)) (fun _ _ c => c)).grow w hB, hm, hl, by show seq ≤ _; omega, by show T.length ≤ _; omega⟩, only_of_below b F⟩
  | cons x q =>
    refine (BPop_some S B F x q seq T w hq (by simp at hm; omega) hB ht (by omega)).mono ?_
    rintro e w' ⟨rfl, hQ, ho⟩
    have h2 := lineB_len popB (by decide)
    exact ⟨_, rfl, ⟨hQ, by show q.length ≤ 60; simp at hm; omega, hl, by show seq ≤ _; omega, by show (T ++ lineB popB).length ≤ _; rw [List.length_append]; omega⟩, ho⟩
theorem toldB_snoc (l : List Ev) (i : Nat) (h : i < l.length) : toldB (l.take (i + 1)) = stepB (toldB (l.take i)) (l.getD i e0) := by
  unfold toldB
  rw [List.take_add_one, List.foldl_append, List.getD_eq_getElem?_getD, List.getElem?_eq_getElem h]
  rfl
end Go.Proofs.YtfejlkgddnamoaaGreatDoor
end

section
namespace Go.Proofs.YtfejlkgddnamoaaGreatDoor
open SimPlain
theorem sorted_unique : ∀ {l l' : List Ev}, l.Perm l' → l.Pairwise Lt → l'.Pairwise Lt → l = l'
  | [], l', h, _, _ => (List.nil_perm.1 h).symm ▸ rfl
  | x :: l, [], h, _, _ => absurd h.length_eq (by simp)
  | x :: l, y :: l', h, h1, h2 => by
    obtain ⟨e, p⟩ := least_unique h (List.pairwise_cons.1 h1).1 (List.pairwise_cons.1 h2).1
    rw [e, sorted_unique p (List.pairwise_cons.1 h1).2 (List.pairwise_cons.1 h2).2]
end Go.Proofs.YtfejlkgddnamoaaGreatDoor
end

section
namespace Go.Proofs.YtfejlkgddnamoaaGreatDoor
open Go Go.RowKit SimPlain HeapPlain BookPlain

def pushS (s : St) (e : Ev) : St :=
  if okE ⟨e.t, e.id, 0⟩ = true then (if s.q.length < 60 then ⟨ins ⟨e.t, e.id, s.seq + 1⟩ s.q, s.seq + 1, s.T ++ lineB (pushB e.t e.id)⟩ else s) else s
def pcode (s : St) (e : Ev) : Int := if okE ⟨e.t, e.id, 0⟩ = true then (if s.q.length < 60 then 0 else 4) else 1
theorem BookS.push_any {w : World} {B S : Nat} {F : Nat → Prop} {s : St} {i : Nat} (h : BookS w B S F s i) (hi : i ≤ 1100000) (hB : B ≤ w.heap.size) (hB2 : 3 < B) (ht : Tab w) (key id : Int) :
    Calls Tryz.prog 9 #[.pointer (some ⟨S, 0, none⟩), .agg #[.int .i64 key, .int .i64 id]] w fun e w' => e = .returned (errV 56 (pcode s ⟨key, id, 0⟩)) ∧ BookS w' B S (Grow F w w') (pushS s ⟨key, id, 0⟩) (i + 1) ∧ Only w w' F := by
  cases hok : okE ⟨key, id, 0⟩ with
  | false =>
    have e : pushS s ⟨key, id, 0⟩ = s := by unfold pushS; rw [if_neg (by rw [hok]; decide)]
    have ec : pcode s ⟨key, id, 0⟩ = 1 := by unfold pcode; rw [if_neg (by rw [hok]; decide)]
    rw [e, ec]
    refine (BPush_bad S B F s.q s.seq s.T key id w hok).mono ?_
    rintro e w' ⟨rfl, b⟩
    exact ⟨by rw [errV_bad (by decide)], ⟨(h.book.only (only_of_below b (fun _ => False)) (fun _ _ c => c)).grow w hB, h.many, h.lo, by have := h.hi; omega, by have := h.txt; omega⟩, only_of_below b F⟩
  | true =>
    rcases Nat.lt_or_ge s.q.length 60 with h60 | h60
    · obtain ⟨t0, t1, d0, d1⟩ := okE_of hok
      have hpl := lineB_len (pushB key id) (pushB_len key id t0 t1 d0 d1)
      have e : pushS s ⟨key, id, 0⟩ = ⟨ins ⟨key, id, s.seq + 1⟩ s.q, s.seq + 1, s.T ++ lineB (pushB key id)⟩ := by unfold pushS; rw [if_pos hok, if_pos h60]
      have ec : pcode s ⟨key, id, 0⟩ = 0 := by unfold pcode; rw [if_pos hok, if_pos h60]
      rw [e, ec]
      refine (BPush_ok S B F s.q s.seq s.T key id w h.book hok h60 hB ht (by have := h.hi; have := h.txt; have := h.lo; omega) (by have := h.hi; have := h.txt; have := h.lo; omega) hB2).mono ?_
      rintro e w' ⟨rfl, hq, ho⟩
      exact ⟨by rw [errV_ok], ⟨hq, by rw [(ins_perm _ _).length_eq]; simp; omega, by have := h.lo; show 0 ≤ s.seq + 1; omega, by have := h.hi; show s.seq + 1 ≤ _; omega, by have := h.txt; rw [List.length_append]; omega⟩, ho⟩
    · have e : pushS s ⟨key, id, 0⟩ = s := by unfold pushS; rw [if_pos hok, if_neg (by omega)]
      have ec : pcode s ⟨key, id, 0⟩ = 4 := by unfold pcode; rw [if_pos hok, if_neg (by omega)]
      rw [e, ec]
      refine (BPush_full S B F s.q s.seq s.T key id w h.book hok (by have := h.many; omega)).mono ?_
      rintro e w' ⟨rfl, b⟩
      exact ⟨by rw [errV_bad (by decide)], ⟨(h.book.only (only_of_below b (fun _ => False)) (fun _ _ c => c)).grow w hB, h.many, h.lo, by have := h.hi; omega, by have := h.txt; omega⟩, only_of_below b F⟩
end Go.Proofs.YtfejlkgddnamoaaGreatDoor
end
