/- PLAIN LAW of the model: what two programs that do alike make of two worlds that part in the numbers of their blocks (no program text in sight). -/
import Derived.Test.YtienepcknafddaaDoorM6
set_option linter.unusedVariables false
set_option linter.unusedSimpArgs false
section
namespace Co
open Go
variable {ok : FuncId → Prop} {P : Program}

/-- a block and its like: cells, or an address that stands for a number -/
inductive BR (ok : FuncId → Prop) (ρ : Ren) (may : Nat → Prop) : Option Obj → Option Obj → Prop
  | cells {c c' : Array Value} (t : TypeId) {fr fr' : Nat × Nat} : PR ok ρ c c' → (∀ i, i < c.size → ¬ (fr.1 ≤ i ∧ i < fr.2) → may i ∧ ¬ (fr'.1 ≤ i ∧ i < fr'.2)) → BR ok ρ may (some (.cells c t fr)) (some (.cells c' t fr'))
  | number {a a' : Addr} (l : Bool) : AR ρ a a' → BR ok ρ may (some (.number a l)) (some (.number a' l))
theorem BR.ext {ρ ρ' : Ren} {may : Nat → Prop} (e : Ext ρ ρ') {o o' : Option Obj} (h : BR ok ρ may o o') : BR ok ρ' may o o' := by
  cases h with
  | cells t hr h1 => exact .cells t (hr.ext e) h1
  | number l ha => exact .number l (ha.ext e)
theorem BR.mono {ρ : Ren} {may may' : Nat → Prop} (e : ∀ i, may i → may' i) {o o' : Option Obj} (h : BR ok ρ may o o') : BR ok ρ may' o o' := by
  cases h with
  | cells t hr h1 => exact .cells t hr fun i h2 h3 => ⟨e i (h1 i h2 h3).1, (h1 i h2 h3).2⟩
  | number l ha => exact .number l ha
structure WR (ok : FuncId → Prop) (ρ : Ren) (w w' : World) : Prop where
  blk : ∀ b, ρ.dom b → BR ok ρ (ρ.may b) w.heap[b]? w'.heap[ρ.to b]?
  glob : ρ.glob ≤ w.heap.size
  shut : ∀ b, ρ.dom b → ρ.shut b → ∃ t fr, w.heap[b]? = some (.cells #[] t fr)
/-- a block that has been turned at certain cells alone -/
def SameBut (M : Nat → Prop) (o o' : Option Obj) : Prop := o' = o ∨ ∃ c c' t fr, o = some (.cells c t fr) ∧ o' = some (.cells c' t fr) ∧ c'.size = c.size ∧ ∀ i, ¬ M i → c'[i]? = c[i]?
theorem SameBut.trans {M : Nat → Prop} {a b c : Option Obj} (h : SameBut M a b) (k : SameBut M b c) : SameBut M a c := by
  rcases h with rfl | ⟨x, y, t, fr, rfl, rfl, h3, h4⟩
  · exact k
  · rcases k with rfl | ⟨x', y', t', fr', k1, rfl, k3, k4⟩
    · exact .inr ⟨x, y, t, fr, rfl, rfl, h3, h4⟩
    · simp only [Option.some.injEq, Obj.cells.injEq] at k1
      obtain ⟨rfl, rfl, rfl⟩ := k1
      exact .inr ⟨x, y', t, fr, rfl, rfl, k3.trans h3, fun i hi => (k4 i hi).trans (h4 i hi)⟩
theorem SameBut.mono {M M' : Nat → Prop} (e : ∀ i, M i → M' i) {o o' : Option Obj} (h : SameBut M o o') : SameBut M' o o' := by
  rcases h with h | ⟨x, y, t, fr, h1, h2, h3, h4⟩
  · exact .inl h
  · exact .inr ⟨x, y, t, fr, h1, h2, h3, fun i hi => h4 i fun c => hi (e i c)⟩
theorem SameBut.none {M : Nat → Prop} (e : ∀ i, ¬ M i) {o o' : Option Obj} (h : SameBut M o o') : o' = o := by
  rcases h with h | ⟨x, y, t, fr, rfl, rfl, h3, h4⟩
  · exact h
  · have : y = x := Array.ext_getElem? fun i => h4 i (e i)
    rw [this]
/-- the next k answers of the two tapes are one -/
def Agree (w w' : World) (k : Nat) : Prop := ∀ n, n < k → ∀ q, w.tape (w.drawn + n) q = w'.tape (w'.drawn + n) q
/-- an access of the great world's that is let by -/
def EvIn (ρ : Ren) (e : Event) : Prop := (e.loc = .mark .noRoom) ∨ (∃ r', e.loc = .obj r' ∧ e.write = false ∧ ∃ b, ρ.dom b ∧ ρ.to b = r' ∧ ¬ ρ.shut b) ∨ ∃ a', e.loc = .cell a' ∧ ∃ b, ρ.dom b ∧ ρ.to b = a'.block ∧ ¬ ρ.shut b ∧ (e.write = true → ρ.may b a'.off)
/-- what a step made of the two: u, u' out of w, w' -/
structure Out (ok : FuncId → Prop) (ρ ρ' : Ren) (w w' u u' : World) (es' f' : Array Event) : Prop where
  ext : Ext ρ ρ'
  may : ∀ b, ρ.dom b → ∀ i, (ρ'.may b i ↔ ρ.may b i)
  wr : WR ok ρ' u u'
  fresh : ∀ b, ρ'.dom b → ρ.dom b ∨ (w.heap.size ≤ b ∧ w'.heap.size ≤ ρ'.to b ∧ ∀ i, ρ'.may b i)
  lt : ∀ b, ρ'.dom b → b < u.heap.size ∧ ρ'.to b < u'.heap.size
  others : ∀ b', b' < w'.heap.size → (∀ b, ρ.dom b → ρ.to b ≠ b') → u'.heap[b']? = w'.heap[b']?
  same : ∀ b, ρ.dom b → SameBut (ρ.may b) w'.heap[ρ.to b]? u'.heap[ρ.to b]?
  os : u'.os = w'.os
  output : u'.output = w'.output
  tape : u'.tape = w'.tape
  tapeS : u.tape = w.tape
  drawn : ∃ d, u.drawn = w.drawn + d ∧ u'.drawn = w'.drawn + d
  size : w'.heap.size ≤ u'.heap.size
  sizeS : w.heap.size ≤ u.heap.size
  evs : ∃ l : List Event, f' = es' ++ l.toArray ∧ ∀ e ∈ l, EvIn ρ' e
theorem WR.lt {ρ : Ren} {w w' : World} (h : WR ok ρ w w') {b : Nat} (hb : ρ.dom b) : b < w.heap.size ∧ ρ.to b < w'.heap.size := by
  have h0 := h.blk b hb
  generalize h1 : w.heap[b]? = o at h0
  generalize h2 : w'.heap[ρ.to b]? = o' at h0
  cases h0 <;> exact ⟨(Array.getElem?_eq_some_iff.1 h1).1, (Array.getElem?_eq_some_iff.1 h2).1⟩
theorem WR.cell {ρ : Ren} {w w' : World} (h : WR ok ρ w w') {a a' : Addr} (ha : AR ρ a a') {v : Value} (hv : w.cell? a = some v) : ∃ v', w'.cell? a' = some v' ∧ VR ok ρ v v' := by
  obtain ⟨hd, rfl⟩ := ha
  have h0 := h.blk _ hd
  unfold World.cell? at hv ⊢
  generalize h1 : w.heap[a.block]? = o at h0 hv
  simp only
  generalize h2 : w'.heap[ρ.to a.block]? = o' at h0
  cases h0 with
  | cells t hr _ =>
    simp only at hv ⊢
    split at hv
    · cases hv
    · next hs =>
      rw [if_neg hs]
      exact hr.get hv
  | number l _ => simp at hv
theorem WR.noCell {ρ : Ren} {w w' : World} (h : WR ok ρ w w') {a a' : Addr} (ha : AR ρ a a') (hv : w.cell? a = none) (P : Program) (b : Bool) : ∃ x, w.farLoad P a b = .error (.stuck x) := by
  obtain ⟨hd, rfl⟩ := ha
  have h0 := h.blk _ hd
  unfold World.farLoad
  generalize h1 : w.heap[a.block]? = o at h0
  generalize h2 : w'.heap[ρ.to a.block]? = o' at h0
  cases h0 <;> (simp only [World.noCell, h1]; exact ⟨_, rfl⟩)
theorem WR.noStore {ρ : Ren} {w w' : World} (h : WR ok ρ w w') {a a' : Addr} (ha : AR ρ a a') (P : Program) (v : Value) (b : Bool) : ∃ x, w.farStore P a v b = .error (.stuck x) := by
  obtain ⟨hd, rfl⟩ := ha
  have h0 := h.blk _ hd
  unfold World.farStore
  generalize h1 : w.heap[a.block]? = o at h0
  generalize h2 : w'.heap[ρ.to a.block]? = o' at h0
  cases h0 <;> (simp only [World.noCell, h1]; exact ⟨_, rfl⟩)
theorem WR.shape {ρ : Ren} {w w' : World} (h : WR ok ρ w w') {r : Nat} (hr : ρ.dom r) : ShR (w.shape? r) (w'.shape? (ρ.to r)) := by
  have h0 := h.blk _ hr
  unfold World.shape?
  generalize h1 : w.heap[r]? = o at h0
  generalize h2 : w'.heap[ρ.to r]? = o' at h0
  cases h0 with
  | cells t hrr _ => exact .inr (.inr ⟨_, _, _, rfl, rfl, hrr.size⟩)
  | number l _ => exact .inl ⟨rfl, rfl⟩
theorem Out.refl {ρ : Ren} {w w' : World} (h : WR ok ρ w w') (es : Array Event) : Out ok ρ ρ w w' w w' es es :=
  ⟨Ext.refl ρ, fun _ _ _ => Iff.rfl, h, fun b hb => .inl hb, fun b hb => h.lt hb, fun _ _ _ => rfl, fun _ _ => .inl rfl, rfl, rfl, rfl, rfl, ⟨0, rfl, rfl⟩, Nat.le_refl _, Nat.le_refl _, [], by simp, fun e he => by cases he⟩
theorem Out.trans {ρ ρ1 ρ2 : Ren} {w w' u u' x x' : World} {es f g : Array Event} (h : Out ok ρ ρ1 w w' u u' es f) (k : Out ok ρ1 ρ2 u u' x x' f g) : Out ok ρ ρ2 w w' x x' es g := by
  refine ⟨h.ext.trans k.ext, fun b hb i => (k.may b (h.ext.at_ b hb).1 i).trans (h.may b hb i), k.wr, fun b hb => ?_, k.lt, fun b' hb' hn => ?_, fun b hb => ?_, k.os.trans h.os, k.output.trans h.output, k.tape.trans h.tape, k.tapeS.trans h.tapeS, ?_, Nat.le_trans h.size k.size, Nat.le_trans h.sizeS k.sizeS, ?_⟩
  · rcases k.fresh b hb with c | ⟨c1, c2, c3⟩
    · rcases h.fresh b c with d | ⟨d1, d2, d3⟩
      · exact .inl d
      · refine .inr ⟨d1, ?_, fun i => (k.may b c i).2 (d3 i)⟩
        rw [(k.ext.at_ b c).2]; exact d2
    · exact .inr ⟨Nat.le_trans h.sizeS c1, Nat.le_trans h.size c2, c3⟩
  · rw [k.others b' (Nat.lt_of_lt_of_le hb' h.size) (fun b hb => ?_)]
    · exact h.others b' hb' hn
    · rcases h.fresh b hb with d | ⟨_, d2, _⟩
      · rw [(h.ext.at_ b d).2]
        exact hn b d
      · omega
  · have h1 := h.same b hb
    have h2 := k.same b (h.ext.at_ b hb).1
    rw [(h.ext.at_ b hb).2] at h2
    exact h1.trans (h2.mono fun i hi => (h.may b hb i).1 hi)
  · obtain ⟨d, d1, d2⟩ := h.drawn
    obtain ⟨d', d3, d4⟩ := k.drawn
    exact ⟨d + d', by omega, by omega⟩
  · obtain ⟨l1, e1, h1⟩ := h.evs
    obtain ⟨l2, e2, h2⟩ := k.evs
    refine ⟨l1 ++ l2, by rw [e2, e1]; simp, fun e he => ?_⟩
    rcases List.mem_append.1 he with c | c
    · rcases h1 e c with d | ⟨r', d1, dw, b, d2, d3, dn⟩ | ⟨a', d1, b, d2, d3, dn, d4⟩
      · exact .inl d
      · exact .inr (.inl ⟨r', d1, dw, b, (k.ext.at_ b d2).1, by rw [(k.ext.at_ b d2).2]; exact d3, fun c => dn ((k.ext.shut b d2).1 c)⟩)
      · exact .inr (.inr ⟨a', d1, b, (k.ext.at_ b d2).1, by rw [(k.ext.at_ b d2).2]; exact d3, fun c => dn ((k.ext.shut b d2).1 c), fun hw => (k.may b d2 _).2 (d4 hw)⟩)
    · exact h2 e c
theorem WR.set {ρ : Ren} {w w' : World} (h : WR ok ρ w w') {a a' : Addr} (ha : AR ρ a a') {v v' : Value} (hv : VR ok ρ v v') : WR ok ρ (w.setCell a v) (w'.setCell a' v') := by
  obtain ⟨hd, rfl⟩ := ha
  refine ⟨fun b hb => ?_, by have := h.glob; simpa [World.setCell] using this, fun b hb hs => by
    obtain ⟨t, fr, this⟩ := h.shut b hb hs
    by_cases e : a.block = b
    · exact ⟨t, fr, by simp [World.setCell, Array.getElem?_modify, e, this]⟩
    · exact ⟨t, fr, by simp [World.setCell, Array.getElem?_modify, e, this]⟩⟩
  have h0 := h.blk b hb
  generalize h1 : w.heap[b]? = o at h0
  generalize h2 : w'.heap[ρ.to b]? = o' at h0
  by_cases e : a.block = b
  · subst e
    cases h0 with
    | @cells c c' t fr fr' hr h3 =>
      by_cases hs : a.spot.isSome = true
      · have e1 : (w.setCell a v).heap[a.block]? = w.heap[a.block]? := by simp [World.setCell, Array.getElem?_modify, h1, hs]
        have e2 : (w'.setCell { a with block := ρ.to a.block } v').heap[ρ.to a.block]? = w'.heap[ρ.to a.block]? := by simp [World.setCell, Array.getElem?_modify, h2, hs]
        rw [e1, e2, h1, h2]
        exact .cells t hr h3
      · have e1 : (w.setCell a v).heap[a.block]? = some (.cells (c.setIfInBounds a.off v) t fr) := by simp [World.setCell, Array.getElem?_modify, h1, hs]
        have e2 : (w'.setCell { a with block := ρ.to a.block } v').heap[ρ.to a.block]? = some (.cells (c'.setIfInBounds a.off v') t fr') := by simp [World.setCell, Array.getElem?_modify, h2, hs]
        rw [e1, e2]
        exact .cells t (hr.set _ hv) (fun i hi => h3 i (by simpa using hi))
    | number l ha =>
      have e1 : (w.setCell a v).heap[a.block]? = w.heap[a.block]? := by simp [World.setCell, Array.getElem?_modify, h1]
      have e2 : (w'.setCell { a with block := ρ.to a.block } v').heap[ρ.to a.block]? = w'.heap[ρ.to a.block]? := by simp [World.setCell, Array.getElem?_modify, h2]
      rw [e1, e2, h1, h2]
      exact .number l ha
  · have e' : ¬ ρ.to a.block = ρ.to b := fun c => e (ρ.inj _ _ hd hb c)
    have e1 : (w.setCell a v).heap[b]? = w.heap[b]? := by simp [World.setCell, Array.getElem?_modify, e]
    have e2 : (w'.setCell { a with block := ρ.to a.block } v').heap[ρ.to b]? = w'.heap[ρ.to b]? := by simp [World.setCell, Array.getElem?_modify, e']
    rw [e1, e2, h1, h2]; exact h0
/-- a new block on both sides -/
noncomputable def Ren.add (ρ : Ren) (r r' : Nat) (h : ∀ b, ρ.dom b → b ≠ r ∧ ρ.to b ≠ r') (hg : ρ.glob ≤ r) : Ren where
  dom b := ρ.dom b ∨ b = r
  to b := if b = r then r' else ρ.to b
  may b i := b = r ∨ ρ.may b i
  shut b := b ≠ r ∧ ρ.shut b
  nm := ρ.nm
  glob := ρ.glob
  lo b hb := by
    rcases hb with hb | hb
    · exact ρ.lo b hb
    · rw [hb]; exact hg
  inj a b ha hb e := by
    by_cases c : a = r
    · by_cases d : b = r
      · rw [c, d]
      · rw [if_pos c, if_neg d] at e
        rcases hb with hb | hb
        · exact absurd e.symm (h b hb).2
        · exact absurd hb d
    · by_cases d : b = r
      · rw [if_neg c, if_pos d] at e
        rcases ha with ha | ha
        · exact absurd e (h a ha).2
        · exact absurd ha c
      · rw [if_neg c, if_neg d] at e
        rcases ha with ha | ha
        · rcases hb with hb | hb
          · exact ρ.inj a b ha hb e
          · exact absurd hb d
        · exact absurd ha c
theorem new_out {ρ : Ren} {w w' : World} (h : WR ok ρ w w') {o o' : Obj} (hr : ∀ ρ' : Ren, Ext ρ ρ' → BR ok ρ' (fun _ => True) (some o) (some o')) (es : Array Event) :
    ∃ ρ', Ext ρ ρ' ∧ ρ'.dom w.heap.size ∧ ρ'.to w.heap.size = w'.heap.size ∧ Out ok ρ ρ' w w' { w with heap := w.heap.push o } { w' with heap := w'.heap.push o' } es es := by
  have hn : ∀ b, ρ.dom b → b ≠ w.heap.size ∧ ρ.to b ≠ w'.heap.size := fun b hb => by have := h.lt hb; omega
  have hext : Ext ρ (ρ.add w.heap.size w'.heap.size hn h.glob) := ⟨fun b hb => ⟨.inl hb, by show (if b = _ then _ else _) = _; rw [if_neg (hn b hb).1]⟩, rfl, fun b hb => ⟨fun c => c.2, fun c => ⟨(hn b hb).1, c⟩⟩, fun _ _ e => e⟩
  have hself : (ρ.add w.heap.size w'.heap.size hn h.glob).to w.heap.size = w'.heap.size := by show (if _ = _ then _ else _) = _; rw [if_pos rfl]
  refine ⟨ρ.add w.heap.size w'.heap.size hn h.glob, hext, .inr rfl, hself, hext, fun b hb i => ⟨fun c => c.resolve_left (hn b hb).1, fun c => .inr c⟩, ⟨fun b hb => ?_, Nat.le_trans h.glob (by simp), fun b hb hs => by
    have hb' := hb.resolve_right hs.1
    have hl := h.lt hb'
    have e1 : (w.heap.push o)[b]? = w.heap[b]? := by rw [Array.getElem?_push, if_neg (by omega)]
    obtain ⟨t, fr, e⟩ := h.shut b hb' hs.2
    exact ⟨t, fr, e1.trans e⟩⟩, fun b hb => ?_, fun b hb => ?_, fun b' hb' _ => ?_, fun b hb => .inl ?_, rfl, rfl, rfl, rfl, ⟨0, rfl, rfl⟩, by simp, by simp, [], by simp, fun e he => by cases he⟩
  · rcases hb with hb | hb
    · have hl := h.lt hb
      have e1 : (w.heap.push o)[b]? = w.heap[b]? := by rw [Array.getElem?_push, if_neg (by omega)]
      have e2 : (w'.heap.push o')[ρ.to b]? = w'.heap[ρ.to b]? := by rw [Array.getElem?_push, if_neg (by omega)]
      rw [(hext.at_ b hb).2]
      show BR ok _ _ (w.heap.push o)[b]? (w'.heap.push o')[ρ.to b]?
      rw [e1, e2]
      exact ((h.blk b hb).ext hext).mono fun i hi => .inr hi
    · subst hb
      rw [hself]
      show BR ok _ _ (w.heap.push o)[w.heap.size]? (w'.heap.push o')[w'.heap.size]?
      rw [Array.getElem?_push, if_pos rfl, Array.getElem?_push, if_pos rfl]
      exact (hr _ hext).mono fun i _ => .inl rfl
  · rcases hb with hb | hb
    · exact .inl hb
    · subst hb
      exact .inr ⟨Nat.le_refl _, by rw [hself]; exact Nat.le_refl _, fun i => .inl rfl⟩
  · rcases hb with hb | hb
    · have hl := h.lt hb
      rw [(hext.at_ b hb).2]
      simp; omega
    · subst hb
      rw [hself]; simp
  · show (w'.heap.push _)[b']? = _
    rw [Array.getElem?_push, if_neg (by omega)]
  · have hl := h.lt hb
    show (w'.heap.push _)[ρ.to b]? = _
    rw [Array.getElem?_push, if_neg (by omega)]
theorem set_out {ρ : Ren} {w w' : World} (h : WR ok ρ w w') {a a' : Addr} (ha : AR ρ a a') (hmay : ρ.may a.block a.off) (hsh : ¬ ρ.shut a.block) {v v' : Value} (hv : VR ok ρ v v') (sync : Bool) (es : Array Event) :
    Out ok ρ ρ w w' (w.setCell a v) (w'.setCell a' v') es (es.push ⟨.cell a', true, sync⟩) := by
  have hW := h.set ha hv
  refine ⟨Ext.refl ρ, fun _ _ _ => Iff.rfl, hW, fun b hb => .inl hb, fun b hb => hW.lt hb, fun b' hb' hn => ?_, fun b hb => ?_, rfl, rfl, rfl, rfl, ⟨0, rfl, rfl⟩, by simp [World.setCell], by simp [World.setCell], [⟨.cell a', true, sync⟩], by simp, fun e he => ?_⟩
  · obtain ⟨hd, rfl⟩ := ha
    have e' : ¬ ρ.to a.block = b' := hn _ hd
    simp [World.setCell, Array.getElem?_modify, e']
  · obtain ⟨hd, rfl⟩ := ha
    by_cases e : a.block = b
    · subst e
      have h0 := h.blk _ hb
      generalize h1 : w.heap[a.block]? = o at h0
      generalize h2 : w'.heap[ρ.to a.block]? = o' at h0
      cases h0 with
      | @cells c c' t fr fr' hr h3 =>
        by_cases hs : a.spot.isSome = true
        · exact .inl (by simp [World.setCell, Array.getElem?_modify, h2, hs])
        · refine .inr ⟨c', c'.setIfInBounds a.off v', t, fr', rfl, by simp [World.setCell, Array.getElem?_modify, h2, hs], by simp, fun i hi => ?_⟩
          rw [Array.getElem?_setIfInBounds_ne]
          intro e
          subst e
          exact hi hmay
      | number l _ => exact .inl (by simp [World.setCell, Array.getElem?_modify, h2])
    · have e' : ¬ ρ.to a.block = ρ.to b := fun c => e (ρ.inj _ _ hd hb c)
      exact .inl (by simp [World.setCell, Array.getElem?_modify, e'])
  · simp only [List.mem_cons, List.not_mem_nil, or_false] at he
    subst he
    obtain ⟨hd, rfl⟩ := ha
    exact .inr (.inr ⟨_, rfl, a.block, hd, rfl, hsh, fun _ => hmay⟩)
theorem WR.notShut {ρ : Ren} {w w' : World} (h : WR ok ρ w w') {a : Addr} (hd : ρ.dom a.block) {v : Value} (hv : w.cell? a = some v) : ¬ ρ.shut a.block := fun c => by
  obtain ⟨t, fr, this⟩ := h.shut _ hd c
  unfold World.cell? at hv
  rw [this] at hv
  simp at hv
/-- a shut block: the great one has cells there -/
theorem WR.at_shut {ρ : Ren} {w w' : World} (h : WR ok ρ w w') {b : Nat} (hb : ρ.dom b) (hs : ρ.shut b) : ∃ c t fr, w'.heap[ρ.to b]? = some (.cells c t fr) := by
  have h0 := h.blk b hb
  obtain ⟨t, fr, e⟩ := h.shut b hb hs
  rw [e] at h0
  generalize h2 : w'.heap[ρ.to b]? = o at h0
  cases h0 with
  | cells t hr _ => exact ⟨_, _, _, rfl⟩
theorem read_out {ρ : Ren} {w w' : World} (h : WR ok ρ w w') {a a' : Addr} (ha : AR ρ a a') (hsh : ¬ ρ.shut a.block) (sync : Bool) (es : Array Event) : Out ok ρ ρ w w' w w' es (es.push ⟨.cell a', false, sync⟩) := by
  refine { Out.refl h es with evs := ⟨[⟨.cell a', false, sync⟩], by simp, fun e he => ?_⟩ }
  simp only [List.mem_cons, List.not_mem_nil, or_false] at he
  subst he
  obtain ⟨hd, rfl⟩ := ha
  exact .inr (.inr ⟨_, rfl, a.block, hd, rfl, hsh, fun c => by cases c⟩)
theorem number_cells {w : World} {r : Nat} {c : Array Value} {t : TypeId} {fr : Nat × Nat} (h : w.heap[r]? = some (.cells c t fr)) (es : Array Event) : (numberAt r).runT P w es = (.ok none w, es) := by
  show (if (w.shape? r).isSome = true then (Sem.pure none : Sem (Option (Addr × Bool))) else _).runT P w es = _
  have : w.shape? r = some (t, c.size) := by unfold World.shape?; rw [h]
  rw [this]; rfl
theorem view_cells {w : World} {r : Nat} {c : Array Value} {t : TypeId} {fr : Nat × Nat} (h : w.heap[r]? = some (.cells c t fr)) (es : Array Event) : (viewAt r).runT P w es = (.ok none w, es) := by
  show (if (w.shape? r).isSome = true then (Sem.pure none : Sem (Option (Addr × TypeId))) else _).runT P w es = _
  have : w.shape? r = some (t, c.size) := by unfold World.shape?; rw [h]
  rw [this]; rfl
theorem number_number {w : World} {r : Nat} {a : Addr} {l : Bool} (h : w.heap[r]? = some (.number a l)) (es : Array Event) : (numberAt r).runT P w es = (.ok (some (a, l)) w, es.push ⟨.obj r, false, false⟩) := by
  show (if (w.shape? r).isSome = true then (Sem.pure none : Sem (Option (Addr × Bool))) else (Sem.getObj r fun o => (match o with | .number a lost => (Sem.pure (some (a, lost)) : Sem (Option (Addr × Bool))) | _ => Sem.pure none))).runT P w es = _
  have : w.shape? r = none := by unfold World.shape?; rw [h]
  rw [this]
  simp only [Option.isSome_none, Bool.false_eq_true, if_false, Sem.runT, h]
  rfl
theorem view_number {w : World} {r : Nat} {a : Addr} {l : Bool} (h : w.heap[r]? = some (.number a l)) (es : Array Event) : (viewAt r).runT P w es = (.ok none w, es.push ⟨.obj r, false, false⟩) := by
  show (if (w.shape? r).isSome = true then (Sem.pure none : Sem (Option (Addr × TypeId))) else (Sem.getObj r fun o => (match o with | .view a t => (Sem.pure (some (a, t)) : Sem (Option (Addr × TypeId))) | _ => Sem.pure none))).runT P w es = _
  have : w.shape? r = none := by unfold World.shape?; rw [h]
  rw [this]
  simp only [Option.isSome_none, Bool.false_eq_true, if_false, Sem.runT, h]
  rfl
theorem number_run {ρ : Ren} {w w' : World} (h : WR ok ρ w w') {r : Nat} (hr : ρ.dom r) (es es' : Array Event) :
    (∃ fs, (numberAt r).runT P w es = (.ok none w, fs) ∧ (numberAt (ρ.to r)).runT P w' es' = (.ok none w', es')) ∨
    ∃ a a' l, ¬ ρ.shut r ∧ AR ρ a a' ∧ (numberAt r).runT P w es = (.ok (some (a, l)) w, es.push ⟨.obj r, false, false⟩) ∧ (numberAt (ρ.to r)).runT P w' es' = (.ok (some (a', l)) w', es'.push ⟨.obj (ρ.to r), false, false⟩) := by
  have h0 := h.blk _ hr
  generalize h1 : w.heap[r]? = o at h0
  generalize h2 : w'.heap[ρ.to r]? = o' at h0
  cases h0 with
  | cells t hrr _ => exact .inl ⟨es, number_cells h1 es, number_cells h2 es'⟩
  | number l ha => exact .inr ⟨_, _, l, fun c => (by obtain ⟨_, _, e⟩ := h.shut r hr c; rw [e] at h1; cases h1), ha, number_number h1 es, number_number h2 es'⟩
theorem view_run {ρ : Ren} {w w' : World} (h : WR ok ρ w w') {r : Nat} (hr : ρ.dom r) (es es' : Array Event) :
    ∃ fs fs', (viewAt r).runT P w es = (.ok none w, fs) ∧ (viewAt (ρ.to r)).runT P w' es' = (.ok none w', fs') ∧ (fs' = es' ∨ (¬ ρ.shut r ∧ fs' = es'.push ⟨.obj (ρ.to r), false, false⟩)) := by
  have h0 := h.blk _ hr
  generalize h1 : w.heap[r]? = o at h0
  generalize h2 : w'.heap[ρ.to r]? = o' at h0
  cases h0 with
  | cells t hrr _ => exact ⟨_, _, view_cells h1 es, view_cells h2 es', .inl rfl⟩
  | number l ha => exact ⟨_, _, view_number h1 es, view_number h2 es', .inr ⟨fun c => (by obtain ⟨_, _, e⟩ := h.shut r hr c; rw [e] at h1; cases h1), rfl⟩⟩
theorem SR.runT {α β : Type} {A : Ren → α → β → Prop} {ρ : Ren} {s : Sem α} {s' : Sem β} (h : SR ok P A ρ s s') : ∀ {w w' : World} (_ : WR ok ρ w w') (es es' : Array Event) (_ : Agree w w' ((s'.runT P w' es').1.w.drawn - w'.drawn)) {a : α} {u : World} {f : Array Event}, s.runT P w es = (.ok a u, f) →
    ∃ ρ' b u' f', s'.runT P w' es' = (.ok b u', f') ∧ A ρ' a b ∧ Out ok ρ ρ' w w' u u' es' f' := by
  induction h with
  | pure h =>
    intro w w' hw es es' hA a u f hr
    simp only [Sem.runT, Prod.mk.injEq, Result.ok.injEq] at hr ⊢
    obtain ⟨⟨rfl, rfl⟩, rfl⟩ := hr
    exact ⟨_, _, _, _, ⟨⟨rfl, rfl⟩, rfl⟩, h, Out.refl hw _⟩
  | @load ρ m x x' k k' ha _ ih =>
    intro w w' hw es es' hA a u f hr
    simp only [Sem.runT] at hr hA ⊢
    cases hc : w.cell? x with
    | none =>
      obtain ⟨y, hy⟩ := hw.noCell ha hc P (m == .atomic)
      simp [hc, hy] at hr
    | some v =>
      obtain ⟨v', hv', hv⟩ := hw.cell ha hc
      simp only [hc] at hr
      simp only [hv'] at hA ⊢
      obtain ⟨ρ', b, u', f', h1, h2, h3⟩ := ih v v' hv hw _ (es'.push ⟨.cell x', false, m == .atomic⟩) hA hr
      exact ⟨ρ', b, u', f', h1, h2, (read_out hw ha (hw.notShut ha.1 hc) _ es').trans h3⟩
  | @store ρ m x x' v v' k k' ha hv _ ih =>
    intro w w' hw es es' hA a u f hr
    by_cases n1 : ∃ c, v = .agg c
    · obtain ⟨c, rfl⟩ := n1
      simp [Sem.runT] at hr
    by_cases n2 : ∃ c, v = .tuple c
    · obtain ⟨c, rfl⟩ := n2
      simp [Sem.runT] at hr
    have m1 : ∀ c, v' ≠ .agg c := fun c e => by subst e; cases hv with | agg _ _ => exact n1 ⟨_, rfl⟩ | any h1 h2 _ _ => exact h1 _ rfl
    have m2 : ∀ c, v' ≠ .tuple c := fun c e => by subst e; cases hv with | tuple _ _ => exact n2 ⟨_, rfl⟩ | any h1 h2 _ _ => exact h2 _ rfl
    rw [runT_store (fun c e => n1 ⟨c, e⟩) (fun c e => n2 ⟨c, e⟩)] at hr
    rw [runT_store m1 m2] at hA ⊢
    cases hc : w.cell? x with
    | none =>
      obtain ⟨y, hy⟩ := hw.noStore ha P v (m == .atomic)
      simp [hc, hy] at hr
    | some old =>
      obtain ⟨old', hold, _⟩ := hw.cell ha hc
      simp only [hc] at hr
      simp only [hold] at hA ⊢
      by_cases hfz : w.frozen? x = true
      · rw [if_pos hfz] at hr
        simp at hr
      · rw [if_neg hfz] at hr
        obtain ⟨hd, hx'⟩ := ha
        have h0 := hw.blk _ hd
        have key : ρ.may x.block x.off ∧ ¬ w'.frozen? x' = true := by
          rw [hx']
          unfold World.cell? at hc
          unfold World.frozen? at hfz ⊢
          generalize h1 : w.heap[x.block]? = o at h0 hc hfz
          simp only
          generalize h2 : w'.heap[ρ.to x.block]? = o' at h0
          cases h0 with
          | number l _ => simp at hc
          | cells t hrr h3 =>
            simp only at hc hfz ⊢
            split at hc
            · cases hc
            · have hlt := (Array.getElem?_eq_some_iff.1 hc).1
              obtain ⟨g1, g2⟩ := h3 x.off hlt (by simpa using hfz)
              exact ⟨g1, by simpa using g2⟩
        obtain ⟨hro, hfz'⟩ := key
        rw [if_neg hfz'] at hA ⊢
        have o1 := set_out hw ⟨hd, hx'⟩ hro (hw.notShut hd hc) hv (m == .atomic) es'
        obtain ⟨ρ', b, u', f', g1, g2, g3⟩ := ih o1.wr _ (es'.push ⟨.cell x', true, m == .atomic⟩) hA hr
        exact ⟨ρ', b, u', f', g1, g2, o1.trans g3⟩
  | @new ρ c c' t k k' hc _ ih =>
    intro w w' hw es es' hA a u f hr
    simp only [Sem.runT] at hr hA ⊢
    obtain ⟨ρ1, e1, d1, t1, o1⟩ := new_out hw (fun ρ' e => .cells t (hc.ext e).pr (fun i _ h => ⟨trivial, h⟩)) es'
    obtain ⟨ρ', b, u', f', h1, h2, h3⟩ := ih ρ1 w.heap.size e1 d1 o1.wr es es' (by rw [t1]; exact hA) hr
    rw [t1] at h1
    exact ⟨ρ', b, u', f', h1, h2, o1.trans h3⟩
  | @number ρ x x' l k k' hc _ ih =>
    intro w w' hw es es' hA a u f hr
    simp only [Sem.runT] at hr hA ⊢
    obtain ⟨ρ1, e1, d1, t1, o1⟩ := new_out hw (fun ρ' e => .number l (hc.ext e)) es'
    obtain ⟨ρ', b, u', f', h1, h2, h3⟩ := ih ρ1 w.heap.size e1 d1 o1.wr es es' (by rw [t1]; exact hA) hr
    rw [t1] at h1
    exact ⟨ρ', b, u', f', h1, h2, o1.trans h3⟩
  | @shape ρ r k k' hd _ ih =>
    intro w w' hw es es' hA a u f hr
    simp only [Sem.runT] at hr hA ⊢
    exact ih _ _ (hw.shape hd) hw es es' hA hr
  | @numberAt ρ r k k' hd _ _ ih1 ih2 =>
    intro w w' hw es es' hA a u f hr
    rw [Sem.runT_bind'] at hr
    rw [Sem.runT_bind'] at hA ⊢
    rcases number_run (P := P) hw hd es es' with ⟨fs, e1, e2⟩ | ⟨x, x', l, hns, hx, e1, e2⟩
    · rw [e1] at hr
      rw [e2] at hA ⊢
      exact ih1 hw fs es' hA hr
    · rw [e1] at hr
      rw [e2] at hA ⊢
      obtain ⟨ρ', b, u', f', g1, g2, g3⟩ := ih2 x x' l hx hw _ (es'.push ⟨.obj (ρ.to r), false, false⟩) hA hr
      refine ⟨ρ', b, u', f', g1, g2, { g3 with evs := ?_ }⟩
      obtain ⟨l', e, hl⟩ := g3.evs
      refine ⟨⟨.obj (ρ.to r), false, false⟩ :: l', by rw [e]; simp, fun x hx => ?_⟩
      rcases List.mem_cons.1 hx with c | c
      · subst c; exact .inr (.inl ⟨_, rfl, rfl, r, (g3.ext.at_ r hd).1, (g3.ext.at_ r hd).2, fun c => hns ((g3.ext.shut r hd).1 c)⟩)
      · exact hl x c
  | @viewAt ρ r k k' hd _ ih =>
    intro w w' hw es es' hA a u f hr
    rw [Sem.runT_bind'] at hr
    rw [Sem.runT_bind'] at hA ⊢
    obtain ⟨fs, fs', e1, e2, e3⟩ := view_run (P := P) hw hd es es'
    rw [e1] at hr
    rw [e2] at hA ⊢
    obtain ⟨ρ', b, u', f', g1, g2, g3⟩ := ih hw fs fs' hA hr
    refine ⟨ρ', b, u', f', g1, g2, { g3 with evs := ?_ }⟩
    obtain ⟨l', e, hl⟩ := g3.evs
    rcases e3 with e3 | ⟨hns, e3⟩
    · exact ⟨l', by rw [e, e3], hl⟩
    · refine ⟨⟨.obj (ρ.to r), false, false⟩ :: l', by rw [e, e3]; simp, fun x hx => ?_⟩
      rcases List.mem_cons.1 hx with c | c
      · subst c; exact .inr (.inl ⟨_, rfl, rfl, r, (g3.ext.at_ r hd).1, (g3.ext.at_ r hd).2, fun c => hns ((g3.ext.shut r hd).1 c)⟩)
      · exact hl x c
  | @choose ρ q k k' _ ih =>
    intro w w' hw es es' hA a u f hr
    simp only [Sem.runT] at hr hA ⊢
    by_cases hq : q.forced = true
    · rw [if_pos hq] at hr hA ⊢
      exact ih 0 hw es es' hA hr
    · rw [if_neg hq] at hr hA ⊢
      have hm := runT_mono (P := P) (k' (q.cut (w'.tape w'.drawn q))) { w' with drawn := w'.drawn + 1 } es'
      have hm' : w'.drawn + 1 ≤ ((k' (q.cut (w'.tape w'.drawn q))).runT P { w' with drawn := w'.drawn + 1 } es').1.w.drawn := hm
      have ht := hA 0 (by omega) q
      simp only [Nat.add_zero] at ht
      rw [ht] at hr
      have hw2 : WR _ ρ { w with drawn := w.drawn + 1 } { w' with drawn := w'.drawn + 1 } := ⟨hw.blk, hw.glob, hw.shut⟩
      obtain ⟨ρ', b, u', f', h1, h2, h3⟩ := ih _ hw2 es es' (fun n hn q => by
        have := hA (n + 1) (by simp only at hn; omega) q
        simpa [Nat.add_assoc, Nat.add_comm 1 n] using this) hr
      refine ⟨ρ', b, u', f', h1, h2, { h3 with drawn := ?_, others := h3.others, os := h3.os, output := h3.output, tape := h3.tape, tapeS := h3.tapeS, fresh := h3.fresh, size := h3.size, sizeS := h3.sizeS }⟩
      obtain ⟨d, d1, d2⟩ := h3.drawn
      simp only at d1 d2
      exact ⟨d + 1, by omega, by omega⟩
  | program _ ih =>
    intro w w' hw es es' hA a u f hr
    simp only [Sem.runT] at hr hA ⊢
    exact ih hw es es' hA hr
  | noRoom _ ih =>
    intro w w' hw es es' hA a u f hr
    simp only [Sem.runT] at hr hA ⊢
    obtain ⟨ρ', b, u', f', h1, h2, h3⟩ := ih hw _ (es'.push ⟨.mark .noRoom, false, true⟩) hA hr
    refine ⟨ρ', b, u', f', h1, h2, { h3 with evs := ?_ }⟩
    obtain ⟨l, e, hl⟩ := h3.evs
    refine ⟨⟨.mark .noRoom, false, true⟩ :: l, by rw [e]; simp, fun x hx => ?_⟩
    rcases List.mem_cons.1 hx with c | c
    · subst c; exact .inl rfl
    · exact hl x c
  | conv h1 h2 _ ih =>
    intro w w' hw es es' hA a u f hr
    rw [h1] at hr
    rw [h2] at hA ⊢
    exact ih hw es es' hA hr
  | dead h =>
    intro w w' hw es es' hA a u f hr
    exact absurd hr (h.no _ _ _ _ _)
theorem SR.haltT {α β : Type} {A : Ren → α → β → Prop} {ρ : Ren} {s : Sem α} {s' : Sem β} (h : SR ok P A ρ s s') : ∀ {w w' : World} (_ : WR ok ρ w w') (es : Array Event) {x : Halt} {u : World} {f : Array Event}, s.runT P w es = (.halt x u, f) → Tame x := by
  induction h with
  | pure h =>
    intro w w' hw es x u f hr
    simp [Sem.runT] at hr
  | @load ρ m y y' k k' ha _ ih =>
    intro w w' hw es x u f hr
    simp only [Sem.runT] at hr
    cases hc : w.cell? y with
    | none =>
      obtain ⟨z, hz⟩ := hw.noCell ha hc P (m == .atomic)
      simp only [hc, hz, Prod.mk.injEq, Result.halt.injEq] at hr
      rw [← hr.1.1]; trivial
    | some v =>
      obtain ⟨v', hv', hv⟩ := hw.cell ha hc
      simp only [hc] at hr
      exact ih v v' hv hw _ hr
  | @store ρ m y y' v v' k k' ha hv _ ih =>
    intro w w' hw es x u f hr
    by_cases n1 : ∃ c, v = .agg c
    · obtain ⟨c, rfl⟩ := n1
      simp only [Sem.runT, Prod.mk.injEq, Result.halt.injEq] at hr
      rw [← hr.1.1]; trivial
    by_cases n2 : ∃ c, v = .tuple c
    · obtain ⟨c, rfl⟩ := n2
      simp only [Sem.runT, Prod.mk.injEq, Result.halt.injEq] at hr
      rw [← hr.1.1]; trivial
    rw [runT_store (fun c e => n1 ⟨c, e⟩) (fun c e => n2 ⟨c, e⟩)] at hr
    cases hc : w.cell? y with
    | none =>
      obtain ⟨z, hz⟩ := hw.noStore ha P v (m == .atomic)
      simp only [hc, hz, Prod.mk.injEq, Result.halt.injEq] at hr
      rw [← hr.1.1]; trivial
    | some old =>
      simp only [hc] at hr
      by_cases hfz : w.frozen? y = true
      · rw [if_pos hfz] at hr
        simp only [Prod.mk.injEq, Result.halt.injEq] at hr
        rw [← hr.1.1]; trivial
      · rw [if_neg hfz] at hr
        exact ih (hw.set ha hv) _ hr
  | @new ρ c c' t k k' hc _ ih =>
    intro w w' hw es x u f hr
    simp only [Sem.runT] at hr
    obtain ⟨ρ1, e1, d1, t1, o1⟩ := new_out hw (fun ρ' e => .cells t (hc.ext e).pr (fun i _ h => ⟨trivial, h⟩)) #[]
    exact ih ρ1 w.heap.size e1 d1 o1.wr es hr
  | @number ρ y y' l k k' hc _ ih =>
    intro w w' hw es x u f hr
    simp only [Sem.runT] at hr
    obtain ⟨ρ1, e1, d1, t1, o1⟩ := new_out hw (fun ρ' e => .number l (hc.ext e)) #[]
    exact ih ρ1 w.heap.size e1 d1 o1.wr es hr
  | @shape ρ r k k' hd _ ih =>
    intro w w' hw es x u f hr
    simp only [Sem.runT] at hr
    exact ih _ _ (hw.shape hd) hw es hr
  | @numberAt ρ r k k' hd _ _ ih1 ih2 =>
    intro w w' hw es x u f hr
    rw [Sem.runT_bind'] at hr
    rcases number_run (P := P) hw hd es #[] with ⟨fs, e1, _⟩ | ⟨y, y', l, _, hy, e1, _⟩
    · rw [e1] at hr
      exact ih1 hw _ hr
    · rw [e1] at hr
      exact ih2 y y' l hy hw _ hr
  | @viewAt ρ r k k' hd _ ih =>
    intro w w' hw es x u f hr
    rw [Sem.runT_bind'] at hr
    obtain ⟨fs, fs', e1, _, _⟩ := view_run (P := P) hw hd es #[]
    rw [e1] at hr
    exact ih hw _ hr
  | @choose ρ q k k' _ ih =>
    intro w w' hw es x u f hr
    simp only [Sem.runT] at hr
    by_cases hq : q.forced = true
    · rw [if_pos hq] at hr
      exact ih 0 hw es hr
    · rw [if_neg hq] at hr
      have hw2 : WR _ ρ { w with drawn := w.drawn + 1 } { w' with drawn := w'.drawn + 1 } := ⟨hw.blk, hw.glob, hw.shut⟩
      exact ih _ hw2 es hr
  | program _ ih =>
    intro w w' hw es x u f hr
    simp only [Sem.runT] at hr
    exact ih hw es hr
  | noRoom _ ih =>
    intro w w' hw es x u f hr
    simp only [Sem.runT] at hr
    exact ih hw _ hr
  | conv h1 h2 _ ih =>
    intro w w' hw es x u f hr
    rw [h1] at hr
    exact ih hw es hr
  | dead h =>
    intro w w' hw es x u f hr
    exact h.quiet _ _ _ _ _ hr
end Co
end
