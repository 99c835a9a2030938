/- what the loops of TopBook keep. -/
import Derived.Test.YtfejlkgddnamoaaGreatDoorSymB
import Derived.Test.YtfejlkgddnamoaaGreatDoorTopPlain
import Derived.Test.YtfejlkgddnamoaaGreatDoorBkOpen
set_option linter.unusedVariables false
set_option linter.unusedSimpArgs false
namespace Go.Proofs.YtfejlkgddnamoaaGreatDoor
open Go Go.RowKit SimPlain HeapPlain BookPlain SymPlain NumPlain SpPlain LinesPlain

/-- order.Sort, and what it made is its own -/
def SortOwn (l : List Ev) (w : World) (e : Ending) (w' : World) : Prop :=
  ∃ a n c W, e = .returned (.tuple #[.slice a n c, .nilIface]) ∧ W.length = n ∧ W.Perm (num l) ∧ W.Pairwise Lt ∧ (W ≠ [] → EtOwn w' w.heap.size a c W) ∧ Below w.heap.size w w'
theorem Sort_own (l : List Ev) (a : Option Addr) (cap : Nat) (w : World) (hx : EvA w a l) (hc : chkI l = 0) (hnone : a = none → cap = 0) :
    Calls Tryz.prog 12 #[.slice a l.length cap] w fun e w' => SortOwn l w e w' := by
  rcases Nat.eq_zero_or_pos l.length with h0 | h0
  · obtain rfl := List.eq_nil_of_length_eq_zero h0
    refine (Sort_empty a cap w hnone).mono ?_
    rintro e w' ⟨a', c, rfl, hb⟩
    exact ⟨a', 0, c, [], rfl, rfl, List.Perm.refl _, List.Pairwise.nil, fun h => absurd rfl h, hb⟩
  · have h := Sort_ok (num l) a cap w hx.num (by rw [chkI_num]; exact hc) (by rw [num_length]; exact h0) (num_bef l)
    rw [num_length] at h
    refine h.mono ?_
    rintro e w' ⟨g, c, W, rfl, hp, hs, hE, hb⟩
    exact ⟨_, W.length, c, W, rfl, rfl, hp, hs, fun _ => hE, hb⟩
theorem EtOwn.noneCap {w : World} {B : Nat} {a : Option Addr} {c : Nat} {l : List Ev} (h : EtOwn w B a c l) : a = none → c = 0 := by
  intro e
  subst e
  rcases h.2 with ⟨h', _⟩ | ⟨g, c', cur, h', _⟩
  · simp at h'; exact h'.2
  · simp at h'
/-- a book that was told more, and what it took -/
structure TopI (w w4 : World) (So Bo m j : Nat) (all : List Ev) (a : Option Addr) (c : Nat) (wr : World) : Prop where
  ok : ∀ x, x < all.length → okE ⟨(all.getD x e0).t, (all.getD x e0).id, 0⟩ = true
  len : all.length ≤ m + j
  book : ∃ F i, i ≤ 40 + j ∧ BookS wr Bo So F (pushAll all) i ∧ (∀ k, (Value.slice a all.length c).ownBlock = some k → ¬ F k)
  row : EtOwn wr w4.heap.size a c all
  low : Below w.heap.size w wr
  sz : w4.heap.size ≤ wr.heap.size
/-- a push that was refused -/
theorem TopI.keep {w w4 wr w5 : World} {So Bo m j i : Nat} {all : List Ev} {a : Option Addr} {c : Nat} {F : Nat → Prop} {s : St} (h : TopI w w4 So Bo m j all a c wr) (hi : i ≤ 40 + j) (hB : w.heap.size ≤ Bo) (hS : BookS wr Bo So F (pushAll all) i)
    (hsep : ∀ k, (Value.slice a all.length c).ownBlock = some k → ¬ F k) (hs : s = pushAll all) (h5 : BookS w5 Bo So (Grow F wr w5) s (i + 1)) (o : Only wr w5 F) : TopI w w4 So Bo m (j + 1) all a c w5 := by
  subst hs
  have hlt := h.row.lt
  refine ⟨h.ok, by have := h.len; omega, ⟨_, i + 1, by omega, h5, fun k hk c => ?_⟩, h.row.same fun k hk => o.block k (hlt k hk).2 (hsep k hk), ?_, Nat.le_trans h.sz o.size⟩
  · rcases c with c | c
    · exact hsep k hk c
    · have := (hlt k hk).2; omega
  · exact h.low.trans (o.below h.low.size (fun k c => by have := (hS.book.fb k c).1; omega))
/-- a push that went through -/
theorem TopI.add {w w4 wr w5 W6 : World} {So Bo m j i : Nat} {all : List Ev} {a : Option Addr} {c : Nat} {F : Nat → Prop} {s : St} {key id : Int} {x : Ev} (h : TopI w w4 So Bo m j all a c wr) (hi : i ≤ 40 + j) (hB : w.heap.size ≤ Bo) (hw4 : w.heap.size ≤ w4.heap.size) (hS : BookS wr Bo So F (pushAll all) i)
    (hsep : ∀ k, (Value.slice a all.length c).ownBlock = some k → ¬ F k) (hs : s = pushAll (all ++ [x])) (hk : key = x.t) (hd : id = x.id) (hok : okE ⟨key, id, 0⟩ = true) (h5 : BookS w5 Bo So (Grow F wr w5) s (i + 1)) (o : Only wr w5 F) (n : Nat) (hn : n = all.length)
    (h6 : W6 = w5.alloc (.cells #[.int .i64 key, .int .i64 id] 30)) :
    W6.ownsRow w4.heap.size 30 2 (.slice a n c) n (flat2 all) ∧ w4.heap.size ≤ W6.heap.size ∧ ∀ v' w8, w8.ownsRow w4.heap.size 30 2 v' (n + 1) (flat2 all ++ [.int .i64 key, .int .i64 id]) → W6.grownBy w8 (Value.slice a n c).ownBlock →
      (v'.ownBlock = (Value.slice a n c).ownBlock ∨ v'.ownBlock = some W6.heap.size) → ∃ a2 c2, v' = .slice a2 (n + 1) c2 ∧ TopI w w4 So Bo m (j + 1) (all ++ [x]) a2 c2 w8 := by
  subst hs hn
  have hlt := h.row.lt
  have hsz := h.sz
  have hs5 := o.size
  have o56 : Only w5 W6 (fun _ => False) := by rw [h6]; exact Only.alloc _ _ (fun _ => False)
  have hs6 := o56.size
  have hrow5 : EtOwn w5 w4.heap.size a c all := h.row.same fun k hk => o.block k (hlt k hk).2 (hsep k hk)
  have hrow6 : EtOwn W6 w4.heap.size a c all := hrow5.same fun k hk => o56.block k (by have := (hlt k hk).2; omega) (fun c => c)
  refine ⟨hrow6, by omega, fun v' w8 ow gr hor => ?_⟩
  have e1 : flat2 all ++ [.int .i64 key, .int .i64 id] = flat2 (all ++ [x]) := by rw [flat2_append, hk, hd]; rfl
  rw [e1] at ow
  obtain ⟨a2, c2, rfl, hE⟩ := EtOwn.of ow
  have hl : (all ++ [x]).length = all.length + 1 := by rw [List.length_append]; rfl
  have og : Only W6 w8 (fun k => (Value.slice a all.length c).ownBlock = some k) := ⟨gr.os, gr.tape, gr.output, gr.size, fun k hk hn => gr.block k hk (fun e => hn e.symm)⟩
  have h58 : Only w5 w8 (fun k => (Value.slice a all.length c).ownBlock = some k) := (o56.mono fun _ _ c => c.elim).trans og (fun _ _ c => c)
  have hfb5 := h5.book.fb
  refine ⟨a2, c2, by rw [hl], snoc_ok h.ok (by rw [← hk, ← hd]; exact hok), by rw [hl]; have := h.len; omega, ⟨_, i + 1, by omega, ⟨h5.book.only h58 (fun k hk c1 => ?_), h5.many, h5.lo, h5.hi, h5.txt⟩, fun k hk c1 => ?_⟩, hE, ?_, Nat.le_trans (by omega) h58.size⟩
  · rcases hk with hk | hk
    · exact hsep k c1 hk
    · have := (hlt k c1).2; omega
  · rw [hl] at hk
    rcases hor with e | e
    · have e2 : (Value.slice a all.length c).ownBlock = some k := by rw [← e, hl]; exact hk
      rcases c1 with c1 | c1
      · exact hsep k e2 c1
      · have := (hlt k e2).2; omega
    · rw [hl] at e
      have e2 : k = W6.heap.size := Option.some.inj (hk.symm.trans e)
      have h6s : W6.heap.size = w5.heap.size + 1 := by rw [h6]; simp
      have := (hfb5 k c1).2
      omega
  · have l5 := h.low.trans (o.below h.low.size (fun k c => by have := (hS.book.fb k c).1; omega))
    exact l5.trans (h58.below l5.size (fun k c1 => by have := (hlt k c1).1; omega))
/-- between two pops, all of what waits being W -/
structure TopC (w6 : World) (So Bo : Nat) (F : Nat → Prop) (W : List Ev) (seq : Int) (i : Nat) (F1 : Nat → Prop) (T1 : List UInt8) (wr : World) : Prop where
  book : BookQ wr Bo So F1 (W.drop i) seq T1
  foot : ∀ k, F1 k → F k ∨ w6.heap.size ≤ k
  only : Only w6 wr F
  txt : T1.length ≤ 200000 + 90 * i
theorem TopC.next {w6 wr w5 w8 : World} {So Bo : Nat} {F : Nat → Prop} {W : List Ev} {seq : Int} {i : Nat} {F1 : Nat → Prop} {T1 : List UInt8} {x : Ev} {q : List Ev} (h : TopC w6 So Bo F W seq i F1 T1 wr) (hd : W.drop i = x :: q)
    (h5 : BookQ w5 Bo So (Grow F1 wr w5) q seq (T1 ++ lineB popB)) (o : Only wr w5 F1) (o8 : Only w5 w8 (fun _ => False)) : TopC w6 So Bo F W seq (i + 1) (Grow F1 wr w5) (T1 ++ lineB popB) w8 := by
  have hs := h.only.size
  have hdr : W.drop (i + 1) = q := by
    have := congrArg List.tail hd
    simpa [List.tail_drop] using this
  refine ⟨by rw [hdr]; exact h5.only o8 (fun _ _ c => c), fun k hk => ?_, ?_, ?_⟩
  · rcases hk with hk | hk
    · exact h.foot k hk
    · exact .inr (by omega)
  · exact (h.only.trans o (fun k hk c1 => by
      rcases h.foot k c1 with g | g
      · exact g
      · omega)).trans o8 (fun _ _ c => c.elim)
  · have h1 := h.txt
    have h2 := lineB_len popB (by decide)
    rw [List.length_append]; omega
end Go.Proofs.YtfejlkgddnamoaaGreatDoor
