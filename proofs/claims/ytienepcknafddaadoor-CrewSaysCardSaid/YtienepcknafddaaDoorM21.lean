/- PLAIN LAW of the model: a stretch of code that a goroutine runs in company as it does alone: a worker's, the starter's (no program text in sight). · PLAIN LAW of the model: the ghost's world for a stretch of code: what the goroutine holds no right on is left out of it, what it may not write is frozen, what it does not look into is masked (no program text in sight). · PLAIN LAW of the model: a stretch of code in company, from its lone walk in the ghost's world (no program text in sight). · PLAIN LAW of the model: what stands while one holds rights; a store, a load, as one step in company (no program text in sight). -/
import Derived.Test.YtienepcknafddaaDoorM12
import Derived.Test.YtienepcknafddaaDoorM20
import Derived.Conc.BesideWords
set_option linter.unusedVariables false
set_option linter.unusedSimpArgs false
section
namespace Cr
open Go Go.Conc Co
open Go.ConcN (WgLive ShN)
section
variable {L : List FuncId} {P : Program} {ρ0 ρ ρs : Ren} {Rel : Array Value → World → Prop} {B : Bot} {s : St} {r r0 : Rts} {W W0 : World}
/-- the rights suffice for what the ghost may do -/
structure Cov (ρ : Ren) (r : Rts) : Prop where
  rd : ∀ b, ρ.dom b → ¬ ρ.shut b → ∀ a : Addr, a.block = ρ.to b → r.rd (.cell a)
  obj : ∀ b, ρ.dom b → ¬ ρ.shut b → r.rd (.obj (ρ.to b))
  wr : ∀ b i, ρ.dom b → ρ.may b i → ∀ a : Addr, a.block = ρ.to b → a.off = i → r.wr (.cell a)
theorem rely_eq (hc : Cov ρ r) {w1 : World} (hk : Rely r W w1) {b : Nat} (hb : ρ.dom b) (hs : ¬ ρ.shut b) (hlt : ρ.to b < W.heap.size) : w1.heap[ρ.to b]? = W.heap[ρ.to b]? :=
  hk.block hlt fun i c => c (hc.rd b hb hs _ rfl)
theorem rely_cells {w1 : World} (hk : Rely r W w1) {b : Nat} {c : Array Value} {t : TypeId} {fr : Nat × Nat} (h : W.heap[b]? = some (.cells c t fr)) : ∃ c', w1.heap[b]? = some (.cells c' t fr) ∧ c'.size = c.size := by
  rcases hk.blk b (Array.getElem?_eq_some_iff.1 h).1 with k | ⟨_, k, _⟩
  · rcases k with k | ⟨x, y, t', fr', e1, e2, e3, _⟩
    · exact ⟨c, k.trans h, rfl⟩
    · rw [h] at e1
      simp only [Option.some.injEq, Obj.cells.injEq] at e1
      obtain ⟨rfl, rfl, rfl⟩ := e1
      exact ⟨y, e2, e3⟩
  · rw [h] at k; exact k.elim
theorem in_keep {fr' : Frame} {cs' : List Frame} (h : In L P ρ0 Rel B s ρ fr' cs' W) (hc : Cov ρ r) {w1 : World} (hk : Rely r W w1) : In L P ρ0 Rel B s ρ fr' cs' w1 :=
  h.keep (fun b hb hs => rely_eq hc hk hb hs (h.wr.lt hb).2) fun b hb hs c t fr e => by
    obtain ⟨c', e', _⟩ := rely_cells hk e
    exact ⟨c', e'⟩
theorem loc_low {a : Addr} {n : Nat} : (Loc.cell a).low n ↔ a.block < n := Iff.rfl
/-- ONE STEP OF A STRETCH IN COMPANY -/
theorem in_guar (hF : FunsB P L) (S : Loc → Prop) (main : Bool) {fr' : Frame} {cs' : List Frame} (h : In L P ρ0 Rel B s ρ fr' cs' W) (hu : Up s) (hsp : ¬ AtSp B s.fr s.cs) (hc : Cov ρ r) {w1 : World} (hk : Rely r W w1) (base : List Frame) :
    ∃ s1 ρ1 fr1 cs1 W1 es, stepG P main (G fr' (cs' ++ base)) w1 = .go (G fr1 (cs1 ++ base)) W1 es ∧ Guar r S main w1 W1 es ∧ In L P ρ0 Rel B s1 ρ1 fr1 cs1 W1 ∧ Sub P s1 s ∧ Cov ρ1 (r.new w1.heap.size W1.heap.size) ∧ Out (· ∈ L) ρ ρ1 (on s.w w1.tape w1.drawn) w1 s1.w W1 #[] es := by
  obtain ⟨s1, ρ1, fr1, cs1, W1, es, k1, k2, k3, k4⟩ := in_step hF (in_keep h hc hk) hu hsp main base
  have hfr : ∀ b, ρ1.dom b → (ρ.dom b ∧ ρ1.to b = ρ.to b ∧ (ρ1.shut b ↔ ρ.shut b)) ∨ (w1.heap.size ≤ ρ1.to b ∧ ρ1.to b < W1.heap.size) := fun b hb => by
    rcases k4.fresh b hb with c | ⟨_, c, _⟩
    · exact .inl ⟨c, (k4.ext.at_ b c).2, k4.ext.shut b c⟩
    · exact .inr ⟨c, (k4.lt b hb).2⟩
  refine ⟨s1, ρ1, fr1, cs1, W1, es, k1, ⟨⟨k4.tape, k4.os, k4.output, k4.size, fun b' hb' => .inl ?_⟩, fun e he => ?_⟩, k2, k3, ⟨fun b hb hs a ha => ?_, fun b hb hs => ?_, fun b i hb hm a ha hi => ?_⟩, k4⟩
  · by_cases hx : ∃ b, ρ.dom b ∧ ρ.to b = b'
    · obtain ⟨b, hb, rfl⟩ := hx
      exact (k4.same b hb).mono fun i hm => hc.wr b i hb hm _ rfl rfl
    · exact .inl (k4.others b' hb' fun b hb e => hx ⟨b, hb, e⟩)
  · obtain ⟨l, el, hl⟩ := k4.evs
    have hel : e ∈ l := by rw [el] at he; simpa using he
    rcases hl e hel with c | ⟨r', c, cw, b, hb, hbr, hns⟩ | ⟨a', c, b, hb, hba, hns, hw⟩
    · obtain ⟨loc, wrt, sy⟩ := e
      simp only at c
      subst c
      exact ⟨fun b hb => by simp [MemAct.ofEvent, MemAct.touch?] at hb, by simp, by simp, by simp, trivial⟩
    · obtain ⟨loc, wrt, sy⟩ := e
      simp only at c cw
      subst c cw
      refine ⟨fun x hx _ => .inr ?_, by simp, by simp, by simp, by rw [← hbr]; exact (k4.lt b hb).2⟩
      simp only [MemAct.ofEvent, MemAct.touch?, Option.some.injEq] at hx
      subst hx
      rcases hfr b hb with ⟨d1, d2, d3⟩ | ⟨d1, d2⟩
      · refine .inl ⟨?_, fun c => by cases c⟩
        show r.rd (.obj r')
        rw [← hbr, d2]
        exact hc.obj b d1 fun c => hns (d3.2 c)
      · exact .inr fun c => by
          have : r' < w1.heap.size := c
          omega
    · obtain ⟨loc, wrt, sy⟩ := e
      simp only at c hw
      subst c
      have hlow : a'.block < W1.heap.size := by rw [← hba]; exact (k4.lt b hb).2
      refine ⟨fun x hx _ => .inr ?_, by simp, by simp, by simp, hlow⟩
      simp only [MemAct.ofEvent, MemAct.touch?, Option.some.injEq] at hx
      subst hx
      rcases hfr b hb with ⟨d1, d2, d3⟩ | ⟨d1, d2⟩
      · refine .inl ⟨hc.rd b d1 (fun c => hns (d3.2 c)) a' (by rw [← hba, d2]), fun hwt => ?_⟩
        exact hc.wr b a'.off d1 ((k4.may b d1 _).1 (hw hwt)) a' (by rw [← hba, d2]) rfl
      · exact .inr fun c => by
          have : a'.block < w1.heap.size := c
          omega
  · rcases hfr b hb with ⟨d1, d2, d3⟩ | ⟨d1, d2⟩
    · exact Or.inl (hc.rd b d1 (fun c => hs (d3.2 c)) a (by rw [ha, d2]))
    · exact Or.inr ⟨rfl, by rw [loc_low]; omega, by rw [loc_low]; omega⟩
  · rcases hfr b hb with ⟨d1, d2, d3⟩ | ⟨d1, d2⟩
    · exact Or.inl (by rw [d2]; exact hc.obj b d1 fun c => hs (d3.2 c))
    · exact Or.inr ⟨rfl, by show ¬ _ < _; omega, d2⟩
  · rcases k4.fresh b hb with d1 | ⟨_, d2, _⟩
    · exact Or.inl (hc.wr b i d1 ((k4.may b d1 i).1 hm) a (by rw [ha, (k4.ext.at_ b d1).2]) hi)
    · have := (k4.lt b hb).2
      exact Or.inr ⟨rfl, by rw [loc_low]; omega, by rw [loc_low]; omega⟩
/-! ### the whole way -/
/-- the old cells that the stretch may write -/
def Wm (ρs : Ren) (l : Loc) : Prop := ∃ (b : Nat) (a : Addr), l = .cell a ∧ ρs.dom b ∧ ρs.may b a.off ∧ a.block = ρs.to b
structure Way (ρs : Ren) (r0 : Rts) (W0 : World) (ρ : Ren) (r : Rts) (W : World) : Prop where
  cov : Cov ρ r
  ext : Ext ρs ρ
  old : ∀ b, ρ.dom b → ρs.dom b ∨ W0.heap.size ≤ ρ.to b
  may : ∀ b, ρs.dom b → ∀ i, ρ.may b i ↔ ρs.may b i
  rd : ∀ l, r0.rd l → r.rd l
  wr : ∀ l, r0.wr l → r.wr l
  nrd : ∀ l, r.rd l → r0.rd l ∨ ¬ l.low W0.heap.size
  nwr : ∀ l, r.wr l → r0.wr l ∨ ¬ l.low W0.heap.size
  turn : Turn (fun l => ¬ r0.rd l ∨ Wm ρs l ∨ ¬ l.low W0.heap.size) W0 W
  low : (∀ l, r0.rd l → l.low W0.heap.size) → ∀ l, r.rd l → l.low W.heap.size
  sub : (∀ l, r0.wr l → r0.rd l) → ∀ l, r.wr l → r.rd l
theorem Way.refl (h : Cov ρ r) (W : World) : Way ρ r W ρ r W := ⟨h, Ext.refl ρ, fun b hb => .inl hb, fun _ _ _ => Iff.rfl, fun _ h => h, fun _ h => h, fun _ h => Or.inl h, fun _ h => Or.inl h, Turn.refl _ _, fun h => h, fun h => h⟩
theorem Way.keep (h : Way ρs r0 W0 ρ r W) {w1 : World} (hk : Rely r W w1) : Way ρs r0 W0 ρ r w1 :=
  { h with turn := h.turn.trans (Turn.mono (fun l hl => Or.inl fun c => hl (h.rd l c)) hk), low := fun a l hl => Loc.low_mono hk.size (h.low a l hl) }
theorem new_new {n n' : Nat} {l : Loc} (h : New n n' l) (hn : W0.heap.size ≤ n) : ¬ l.low W0.heap.size := fun c => h.2.1 (Loc.low_mono hn c)
theorem Way.step {w w' u u' : World} {ρ1 : Ren} {es : Array Event} (h : Way ρs r0 W0 ρ r w') (hl : ∀ b, ρ.dom b → ρ.to b < w'.heap.size) (k : Out (· ∈ L) ρ ρ1 w w' u u' #[] es) (hc : Cov ρ1 (r.new w'.heap.size u'.heap.size)) : Way ρs r0 W0 ρ1 (r.new w'.heap.size u'.heap.size) u' := by
  refine ⟨hc, h.ext.trans k.ext, fun b hb => ?_, fun b hb i => ?_, fun l hl => Or.inl (h.rd l hl), fun l hl => Or.inl (h.wr l hl), fun l hl => ?_, fun l hl => ?_, h.turn.trans ⟨k.tape, k.os, k.output, k.size, fun b' hb' => .inl ?_⟩, fun a l hl => ?_, fun a l hl => hl.imp (h.sub a l) fun x => x⟩
  · rcases k.fresh b hb with c | ⟨_, c, _⟩
    · rw [(k.ext.at_ b c).2]; exact h.old b c
    · exact .inr (Nat.le_trans h.turn.size c)
  · exact (k.may b (h.ext.at_ b hb).1 i).trans (h.may b hb i)
  · rcases hl with hl | hl
    · exact h.nrd l hl
    · exact .inr (new_new hl h.turn.size)
  · rcases hl with hl | hl
    · exact h.nwr l hl
    · exact .inr (new_new hl h.turn.size)
  · by_cases hx : ∃ b, ρ.dom b ∧ ρ.to b = b'
    · obtain ⟨b, hb, rfl⟩ := hx
      refine (k.same b hb).mono fun i hm => ?_
      rcases h.old b hb with c | c
      · exact .inr (.inl ⟨b, _, rfl, c, (h.may b c i).1 hm, (h.ext.at_ b c).2⟩)
      · exact .inr (.inr fun c' => by
          have : ρ.to b < W0.heap.size := c'
          omega)
    · exact .inl (k.others b' hb' fun b hb e => hx ⟨b, hb, e⟩)
  · rcases hl with hl | hl
    · exact Loc.low_mono k.size (h.low a l hl)
    · exact hl.2.2
/-- what has been turned, of what there was -/
theorem Way.turn' (h : Way ρs r0 W0 ρ r W) : Turn (fun l => ¬ r0.rd l ∨ Wm ρs l) W0 W := by
  refine ⟨h.turn.tape, h.turn.os, h.turn.output, h.turn.size, fun b hb => ?_⟩
  rcases h.turn.blk b hb with k | ⟨k, k1, k2⟩
  · exact .inl (k.mono fun i c => by
      rcases c with c | c | c
      · exact .inl c
      · exact .inr c
      · exact absurd hb c)
  · refine .inr ⟨?_, k1, k2⟩
    rcases k with c | c | c
    · exact .inl c
    · exact .inr c
    · exact absurd hb c
theorem Way.rely (h : Way ρs r0 W0 ρ r W) (hm : ∀ b i, ρs.dom b → ¬ ρs.may b i) : Rely r0 W0 W := h.turn'.mono fun l c => by
  rcases c with c | ⟨b, a, _, hb, hmm, _⟩
  · exact c
  · exact absurd hmm (hm b _ hb)
/-- the record behind a stretch -/
def endF (B : Bot) (f : FuncId) (t : Array Value) : Frame := { fn := f, tmps := t, todo := B.k, defers := B.ds, mode := .run, kind := B.kd }
theorem back_of {fr' : Frame} {cs' : List Frame} (hR : Carried L P ρ0 Rel) (h : In L P ρ0 Rel B s ρ fr' cs' W) (hb : Back Rel s) : cs' = [] ∧ ∃ t', fr' = endF B fr'.fn t' ∧ Co.RR (· ∈ L) ρ s.fr.tmps t' ∧ Rel t' W ∧ (B.fn = none ∨ B.fn = some fr'.fn) ∧ B.sp = none := in_back hR h hb
theorem fr_fn {fr' : Frame} {cs' : List Frame} {base : List Frame} : (G fr' (cs' ++ base)).status = .running := rfl
section worker
variable {ty : TypeId} {Iv : World → Prop} {Wg c : Nat} {J : Jb} {ph : WPh}
/-- A WORKER'S STRETCH -/
theorem wk_in (hF : FunsB P L) (hR : Carried L P ρ0 Rel) (hl : ph.live) (base : List Frame) {f : FuncId} (hB : B.fn = some f)
    (hsp : ∀ (s : St) (ρ : Ren) (fr' : Frame) (W : World) (r : Rts), In L P ρ0 Rel B s ρ fr' [] W → AtSp B s.fr s.cs → Way ρs r0 W0 ρ r W → WkE P ty Iv Wg c J ph r (G fr' base) W)
    (next : B.sp = none → ∀ (t' : Array Value) (ρ : Ren) (r : Rts) (W : World), Rel t' W → Ext ρ0 ρ → Way ρs r0 W0 ρ r W → (∃ t ws, Co.RR (· ∈ L) ρ t t' ∧ WR (· ∈ L) ρ ws W ∧ Rel t ws) → WkE P ty Iv Wg c J ph r (G (endF B f t') base) W) :
    ∀ s, Acc (Sub P) s → ∀ (ρ : Ren) (fr' : Frame) (cs' : List Frame) (W : World) (r : Rts), In L P ρ0 Rel B s ρ fr' cs' W → Way ρs r0 W0 ρ r W → WkE P ty Iv Wg c J ph r (G fr' (cs' ++ base)) W := by
  intro s hs
  induction hs with
  | intro s _ ih =>
    intro ρ fr' cs' W r h hw
    rcases h.fin.up_or with hb | hu
    · obtain ⟨rfl, t', e, h1, h2, h3, h4⟩ := back_of hR h hb
      have ef : fr'.fn = f := by
        rcases h3 with h3 | h3
        · rw [hB] at h3; cases h3
        · rw [hB] at h3; exact (Option.some.inj h3).symm
      rw [ef] at e
      rw [e]
      exact next h4 t' ρ r W h2 h.ext hw ⟨_, _, h1, h.wr, hb.2.2.2⟩
    · by_cases ha : AtSp B s.fr s.cs
      · obtain ⟨rfl, _⟩ := in_sp h ha
        exact hsp s ρ fr' W r h ha hw
      · refine WkE.silent hl rfl fun w1 h1 _ => ?_
        obtain ⟨s1, ρ1, fr1, cs1, W1, es, k1, k2, k3, k4, k5, k6⟩ := in_guar hF (fun _ => False) false h hu ha hw.cov h1 base
        refine ⟨_, W1, es, k1, k2, rfl, ih s1 k4 ρ1 fr1 cs1 W1 _ k3 ((hw.keep h1).step (fun b hb => ?_) k6 k5)⟩
        exact ((in_keep h hw.cov h1).wr.lt hb).2
end worker
section starter
variable {ty : TypeId} {Post : Value → World → Prop} {σ : Sg} {d : Nat}
/-- THE STARTER'S STRETCH -/
theorem me_in (hF : FunsB P L) (hR : Carried L P ρ0 Rel) (base : List Frame) {f : FuncId} (hB : B.fn = some f)
    (hsp : ∀ (s : St) (ρ : Ren) (fr' : Frame) (W : World) (r : Rts), In L P ρ0 Rel B s ρ fr' [] W → AtSp B s.fr s.cs → Way ρs r0 W0 ρ r W → ME P ty Post σ d r (G fr' base) W)
    (next : B.sp = none → ∀ (t' : Array Value) (ρ : Ren) (r : Rts) (W : World), Rel t' W → Ext ρ0 ρ → Way ρs r0 W0 ρ r W → (∃ t ws, Co.RR (· ∈ L) ρ t t' ∧ WR (· ∈ L) ρ ws W ∧ Rel t ws) → ME P ty Post σ d r (G (endF B f t') base) W) :
    ∀ s, Acc (Sub P) s → ∀ (ρ : Ren) (fr' : Frame) (cs' : List Frame) (W : World) (r : Rts), In L P ρ0 Rel B s ρ fr' cs' W → Way ρs r0 W0 ρ r W → ME P ty Post σ d r (G fr' (cs' ++ base)) W := by
  intro s hs
  induction hs with
  | intro s _ ih =>
    intro ρ fr' cs' W r h hw
    rcases h.fin.up_or with hb | hu
    · obtain ⟨rfl, t', e, h1, h2, h3, h4⟩ := back_of hR h hb
      have ef : fr'.fn = f := by
        rcases h3 with h3 | h3
        · rw [hB] at h3; cases h3
        · rw [hB] at h3; exact (Option.some.inj h3).symm
      rw [ef] at e
      rw [e]
      exact next h4 t' ρ r W h2 h.ext hw ⟨_, _, h1, h.wr, hb.2.2.2⟩
    · by_cases ha : AtSp B s.fr s.cs
      · obtain ⟨rfl, _⟩ := in_sp h ha
        exact hsp s ρ fr' W r h ha hw
      · refine ME.silent rfl fun w1 h1 _ => ?_
        obtain ⟨s1, ρ1, fr1, cs1, W1, es, k1, k2, k3, k4, k5, k6⟩ := in_guar hF σ.sy true h hu ha hw.cov h1 base
        refine ⟨_, W1, es, k1, k2, ih s1 k4 ρ1 fr1 cs1 W1 _ k3 ((hw.keep h1).step (fun b hb => ?_) k6 k5)⟩
        exact ((in_keep h hw.cov h1).wr.lt hb).2
end starter
end
end Cr
end

section
namespace Cr
open Go Go.Conc Co
section masks
variable {ok : FuncId → Prop} {ρ : Ren}
theorem any_none {v : Value} (h1 : ∀ c, v ≠ .agg c) (h2 : ∀ c, v ≠ .tuple c) (h3 : ∀ c, v ≠ .bool c) : VR ok ρ (.chan none) v := .any h1 h2 h3 fun n e => by cases e
theorem none_self : VR ok ρ (.chan none) (.chan none) := any_none (by simp) (by simp) (by simp)
theorem mask_at (ok : FuncId → Prop) (ρ : Ren) : ∀ (n : Nat) (v : Value), sizeOf v < n → ∃ g, VR ok ρ g v ∧ VR ok ρ g g ∧ (VR ok ρ v v → g = v)
  | 0, v, h => absurd h (Nat.not_lt_zero _)
  | n + 1, v, hn => by
    by_cases h : VR ok ρ v v
    · exact ⟨v, h, h, fun _ => rfl⟩
    · have rowOf : ∀ c : Array Value, (∀ i (hi : i < c.size), sizeOf c[i] < sizeOf v) → ∃ d : Array Value, Co.RR ok ρ d c ∧ Co.RR ok ρ d d := fun c hc => by
        have hx : ∀ i : Fin c.size, ∃ g, VR ok ρ g c[i] ∧ VR ok ρ g g := fun i => by
          have := hc i.1 i.2
          obtain ⟨g, a, b, _⟩ := mask_at ok ρ n c[i.1] (by omega)
          exact ⟨g, a, b⟩
        refine ⟨Array.ofFn fun i => (hx i).choose, ⟨by simp, fun i x y h1 h2 => ?_⟩, ⟨rfl, fun i x y h1 h2 => ?_⟩⟩
        · obtain ⟨hi, rfl⟩ := Array.getElem?_eq_some_iff.1 h1
          obtain ⟨hi', rfl⟩ := Array.getElem?_eq_some_iff.1 h2
          simp only [Array.getElem_ofFn]
          exact (hx ⟨i, hi'⟩).choose_spec.1
        · obtain ⟨hi, rfl⟩ := Array.getElem?_eq_some_iff.1 h1
          obtain ⟨hi', rfl⟩ := Array.getElem?_eq_some_iff.1 h2
          simp only [Array.getElem_ofFn]
          exact (hx ⟨i, by simpa using hi⟩).choose_spec.2
      cases v with
      | agg c =>
        obtain ⟨d, h1, h2⟩ := rowOf c fun i hi => by
          have := Array.sizeOf_get c i hi
          simp only [Value.agg.sizeOf_spec]
          omega
        exact ⟨.agg d, h1.agg, h2.agg, fun k => absurd k h⟩
      | tuple c =>
        obtain ⟨d, h1, h2⟩ := rowOf c fun i hi => by
          have := Array.sizeOf_get c i hi
          simp only [Value.tuple.sizeOf_spec]
          omega
        exact ⟨.tuple d, h1.tuple, h2.tuple, fun k => absurd k h⟩
      | bool b => exact absurd (.bool b) h
      | _ => exact ⟨.chan none, any_none (by simp) (by simp) (by simp), none_self, fun k => absurd k h⟩
theorem mask_ex (ok : FuncId → Prop) (ρ : Ren) (v : Value) : ∃ g, VR ok ρ g v ∧ VR ok ρ g g ∧ (VR ok ρ v v → g = v) := mask_at ok ρ _ v (Nat.lt_succ_self _)
noncomputable def mask (ok : FuncId → Prop) (ρ : Ren) (v : Value) : Value := (mask_ex ok ρ v).choose
theorem mask_vr (v : Value) : VR ok ρ (mask ok ρ v) v := (mask_ex ok ρ v).choose_spec.1
theorem mask_self (v : Value) : VR ok ρ (mask ok ρ v) (mask ok ρ v) := (mask_ex ok ρ v).choose_spec.2.1
theorem mask_eq {v : Value} (h : VR ok ρ v v) : mask ok ρ v = v := (mask_ex ok ρ v).choose_spec.2.2 h
noncomputable def mrow (ok : FuncId → Prop) (ρ : Ren) (c : Array Value) : Array Value := c.map (mask ok ρ)
theorem mrow_get (c : Array Value) (i : Nat) : (mrow ok ρ c)[i]? = (c[i]?).map (mask ok ρ) := by simp [mrow]
theorem mrow_size (c : Array Value) : (mrow ok ρ c).size = c.size := by simp [mrow]
theorem mrow_vr (c : Array Value) : Co.RR ok ρ (mrow ok ρ c) c := ⟨mrow_size c, fun i v v' h1 h2 => by
  rw [mrow_get, h2] at h1
  simp only [Option.map_some, Option.some.injEq] at h1
  subst h1
  exact mask_vr _⟩
theorem mrow_self (c : Array Value) : Co.RR ok ρ (mrow ok ρ c) (mrow ok ρ c) := ⟨rfl, fun i v v' h1 h2 => by
  rw [h1] at h2
  obtain rfl := Option.some.inj h2
  rw [mrow_get] at h1
  obtain ⟨x, _, rfl⟩ := Option.map_eq_some_iff.1 h1
  exact mask_self _⟩
end masks
section
variable {L : List FuncId} {W : World} {glob : Nat} {D S M : Nat → Prop}
/-- the first renaming of a stretch: the blocks D, those of S shut, those of M to be written -/
def gren (W : World) (glob : Nat) (D S M : Nat → Prop) : Ren where
  dom b := D b ∧ glob ≤ b ∧ ∃ c t fr, W.heap[b]? = some (.cells c t fr)
  «to» b := b
  may b i := M b ∧ ¬ S b ∧ ∀ c t fr, W.heap[b]? = some (.cells c t fr) → ¬ (fr.1 ≤ i ∧ i < fr.2)
  shut := S
  nm n := some (.chan (some n))
  glob := glob
  inj _ _ _ _ h := h
  lo _ h := h.2.1
open Classical in
noncomputable def gobj (L : List FuncId) (ρ : Ren) (S M : Nat → Prop) (b : Nat) : Obj → Obj
  | .cells c t fr => if S b then .cells #[] t fr else .cells (mrow (· ∈ L) ρ c) t (if M b then fr else (0, c.size))
  | o => o
/-- THE GHOST'S WORLD -/
noncomputable def gw (L : List FuncId) (W : World) (glob : Nat) (D S M : Nat → Prop) : World := { W with heap := W.heap.mapIdx fun b o => gobj L (gren W glob D S M) S M b o }
theorem gw_at (b : Nat) : (gw L W glob D S M).heap[b]? = (W.heap[b]?).map (gobj L (gren W glob D S M) S M b) := by
  show (W.heap.mapIdx _)[b]? = _
  rw [Array.getElem?_mapIdx]
theorem gw_size : (gw L W glob D S M).heap.size = W.heap.size := by simp [gw]
theorem gw_cells {b : Nat} {c : Array Value} {t : TypeId} {fr : Nat × Nat} (h : W.heap[b]? = some (.cells c t fr)) (hs : ¬ S b) : ∃ fr', (gw L W glob D S M).heap[b]? = some (.cells (mrow (· ∈ L) (gren W glob D S M) c) t fr') ∧ (M b → fr' = fr) ∧ (¬ M b → fr' = (0, c.size)) := by
  rw [gw_at, h]
  simp only [Option.map_some, gobj, if_neg hs]
  exact ⟨_, rfl, fun h => if_pos h, fun h => if_neg h⟩
theorem gw_shut {b : Nat} {c : Array Value} {t : TypeId} {fr : Nat × Nat} (h : W.heap[b]? = some (.cells c t fr)) (hs : S b) : (gw L W glob D S M).heap[b]? = some (.cells #[] t fr) := by
  rw [gw_at, h]
  simp only [Option.map_some, gobj, if_pos hs]
theorem gw_wr (hg : glob ≤ W.heap.size) : WR (· ∈ L) (gren W glob D S M) (gw L W glob D S M) W := by
  refine ⟨fun b hb => ?_, by rw [gw_size]; exact hg, fun b hb hs => ?_⟩
  · obtain ⟨_, _, c, t, fr, e⟩ := hb
    show BR _ _ _ _ W.heap[b]?
    by_cases hs : S b
    · rw [gw_shut e hs, e]
      exact .cells t ⟨Nat.zero_le _, fun i v v' hv => by simp at hv⟩ fun i hi => by simp at hi
    · obtain ⟨fr', e', h1, h2⟩ := gw_cells (L := L) (glob := glob) (D := D) (M := M) e hs
      rw [e', e]
      refine .cells t (mrow_vr c).pr fun i hi hn => ?_
      by_cases hm : M b
      · rw [h1 hm] at hn
        refine ⟨⟨hm, hs, fun c0 t0 fr0 e0 => ?_⟩, hn⟩
        rw [e] at e0
        simp only [Option.some.injEq, Obj.cells.injEq] at e0
        rw [← e0.2.2]; exact hn
      · rw [h2 hm] at hn
        rw [mrow_size] at hi
        exact absurd ⟨Nat.zero_le _, hi⟩ hn
  · obtain ⟨_, _, c, t, fr, e⟩ := hb
    exact ⟨t, fr, gw_shut e hs⟩
theorem gw_self (hg : glob ≤ W.heap.size) : WR (· ∈ L) (gren W glob D S M) (gw L W glob D S M) (gw L W glob D S M) := by
  refine ⟨fun b hb => ?_, by rw [gw_size]; exact hg, (gw_wr hg).shut⟩
  obtain ⟨_, _, c, t, fr, e⟩ := hb
  show BR _ _ _ _ (gw L W glob D S M).heap[b]?
  by_cases hs : S b
  · rw [gw_shut e hs]
    exact .cells t ⟨Nat.zero_le _, fun i v v' hv => by simp at hv⟩ fun i hi => by simp at hi
  · obtain ⟨fr', e', h1, h2⟩ := gw_cells (L := L) (glob := glob) (D := D) (M := M) e hs
    rw [e']
    refine .cells t (mrow_self c).pr fun i hi hn => ?_
    by_cases hm : M b
    · rw [h1 hm] at hn ⊢
      refine ⟨⟨hm, hs, fun c0 t0 fr0 e0 => ?_⟩, hn⟩
      rw [e] at e0
      simp only [Option.some.injEq, Obj.cells.injEq] at e0
      rw [← e0.2.2]; exact hn
    · rw [h2 hm] at hn
      rw [mrow_size] at hi
      exact absurd ⟨Nat.zero_le _, hi⟩ hn
/-- what stands in a cell that the ghost sees -/
theorem gw_cell {a : Addr} {v : Value} (h : W.cell? a = some v) (hs : ¬ S a.block) (hv : VR (· ∈ L) (gren W glob D S M) v v) : (gw L W glob D S M).cell? a = some v := by
  unfold World.cell? at h ⊢
  generalize h1 : W.heap[a.block]? = o at h
  match o, h1, h with
  | some (.cells c t fr), h1, h =>
    obtain ⟨fr', e', _⟩ := gw_cells (L := L) (glob := glob) (D := D) (M := M) h1 hs
    rw [e']
    simp only at h ⊢
    split at h
    · cases h
    · next hsp =>
      rw [if_neg hsp, mrow_get, h]
      simp [mask_eq hv]
end
end Cr
end

section
namespace Cr
open Go Go.Conc Co
section
variable {L : List FuncId} {P : Program} {Rel : Array Value → World → Prop} {r : Rts} {W : World} {D S M : Nat → Prop} {f : FuncId} {k : List Item} {ds : List Deferred} {kd : CallKind} {t : Array Value}
/-- the renaming at the start of a stretch -/
def gr (P : Program) (W : World) (D S M : Nat → Prop) : Ren := gren W P.globals.size D S M
/-- the ghost's world at the start -/
noncomputable def gh (L : List FuncId) (P : Program) (W : World) (D S M : Nat → Prop) : World := gw L W P.globals.size D S M
theorem in_start (hF : FunsB P L) (hf : ∃ fn, P.funcs[f]? = some fn) (hkd : kd ≠ .early) {c : Code} (hc : codeOk P L false c = true) (hg : P.globals.size ≤ W.heap.size) (hR : Carried L P (gr P W D S M) Rel)
    (h : ∀ T, c.wp P (fun e a w' => e = .normal ∧ a.defers = [] ∧ Rel a.tmps w') ⟨mrow (· ∈ L) (gr P W D S M) t, []⟩ (on (gh L P W D S M) T 0)) :
    In L P (gr P W D S M) Rel ⟨k, ds, kd, none, some f⟩ ⟨mkF f (mrow (· ∈ L) (gr P W D S M) t) [.code c] .run, [], gh L P W D S M⟩ (gr P W D S M) { fn := f, tmps := t, todo := .code c :: k, defers := ds, mode := .run, kind := kd } [] W :=
  ⟨fin_of_wp hF hR hf hc rfl (mrow_self t) (gw_self hg) h, .bot (.mk f [.code c] .run ⟨hf, .inr rfl⟩ (fun c => by cases c) (fun _ => rfl) (.inl rfl) hkd (fun x hx => by
    simp only [List.mem_cons, List.not_mem_nil, or_false] at hx
    subst hx; exact hc) (mrow_vr t) rfl), gw_wr hg, rfl, Ext.refl _⟩
theorem in_startS (hF : FunsB P L) (hf : ∃ fn, P.funcs[f]? = some fn) (hkd : kd ≠ .early) {id n : Nat} {og oq : Array Oper} (hsp : SpOk n og oq) (hc : codeOk P L false (.region id og true) = true) (hg : P.globals.size ≤ W.heap.size) (hR : Carried L P (gr P W D S M) Rel)
    (h : ∀ T, (Code.region id og true).wp P (fun e a w' => e = .normal ∧ a.defers = [] ∧ Rel a.tmps w') ⟨mrow (· ∈ L) (gr P W D S M) t, []⟩ (on (gh L P W D S M) T 0)) :
    In L P (gr P W D S M) Rel ⟨k, ds, kd, some (n, og, oq), some f⟩ ⟨mkF f (mrow (· ∈ L) (gr P W D S M) t) [.code (.region id og true)] .run, [], gh L P W D S M⟩ (gr P W D S M) { fn := f, tmps := t, todo := .code (.region id oq true) :: k, defers := ds, mode := .run, kind := kd } [] W :=
  ⟨fin_of_wp hF hR hf hc rfl (mrow_self t) (gw_self hg) h, .bot (.sp f ⟨hf, .inr rfl⟩ hkd rfl hsp (.code id) (by unfold codeOk at hc; exact List.all_eq_true.1 hc) (mrow_vr t)), gw_wr hg, rfl, Ext.refl _⟩
/-- what is known where the operation that is stepped by hand is next -/
structure Here (L : List FuncId) (P : Program) (Rel : Array Value → World → Prop) (f : FuncId) (n : Nat) (og : Array Oper) (ρ0 : Ren) (ρ : Ren) (rest : List Nat) (tg t' : Array Value) (ws W' : World) : Prop where
  fin : Fin P Rel ⟨mkF f tg [.inRegion og (n :: rest)] .run, [], ws⟩
  ord : OrdInv og (n :: rest)
  tmps : Co.RR (· ∈ L) ρ tg t'
  wr : WR (· ∈ L) ρ ws W'
  glob : ρ.glob = P.globals.size
  ext : Ext ρ0 ρ
/-- .. behind it, where it is nothing to the ghost -/
theorem Here.next {n : Nat} {og : Array Oper} {ρ0 ρ : Ren} {rest : List Nat} {tg t' : Array Value} {ws W' : World} (h : Here L P Rel f n og ρ0 ρ rest tg t' ws W') {o : Oper} {v : Value} (ho : og[n]? = some o) (hop : o.op = .assign (.const v)) (hd : o.dst = none) (hgd : o.guard = none) :
    Fin P Rel ⟨mkF f tg [.inRegion og rest] .run, [], ws⟩ := by
  obtain ⟨es, hst⟩ := nop_step (P := P) (f := f) (t := tg) (r := rest) ho hop hd hgd ws
  have hg : Good1 P ⟨mkF f tg [.inRegion og (n :: rest)] .run, [], ws⟩ ws.tape ws.drawn ⟨mkF f tg [.inRegion og rest] .run, [], ws⟩ := ⟨es, by
    rw [on_self]
    exact hst⟩
  rcases h.fin.cases' with hb | ⟨_, hn⟩
  · cases hb.2.1
  · obtain ⟨s1, g1, f1⟩ := hn ws.tape ws.drawn
    rw [hg.det g1]; exact f1
theorem here_of {n : Nat} {og oq : Array Oper} {ρ0 ρ : Ren} {s : St} {fr' : Frame} {W' : World} (h : In L P ρ0 Rel ⟨k, ds, kd, some (n, og, oq), some f⟩ s ρ fr' [] W') (ha : AtSp ⟨k, ds, kd, some (n, og, oq), some f⟩ s.fr s.cs) :
    ∃ rest tg t', fr' = { fn := f, tmps := t', todo := .inRegion oq (n :: rest) :: k, defers := ds, mode := .run, kind := kd } ∧ Here L P Rel f n og ρ0 ρ rest tg t' s.w W' := by
  obtain ⟨_, f1, tg, t', n1, og1, oq1, rest, e1, h2, e3, e4, h6, h0, h4, h5, hl⟩ := in_sp h ha
  simp only [Option.some.injEq, Prod.mk.injEq] at e1
  obtain ⟨rfl, rfl, rfl⟩ := e1
  have ef : f = f1 := by
    rcases h0.at_ with c | c
    · cases c
    · exact Option.some.inj c
  subst ef
  refine ⟨rest, tg, t', e4, ?_, hl, h6, h.wr, h.glob, h.ext⟩
  have := h.fin
  rw [e3] at this
  exact this
section worker
variable {ty : TypeId} {Iv : World → Prop} {Wg c : Nat} {J : Jb} {ph : WPh}
/-- A STRETCH OF A WORKER'S -/
theorem wk_str (hF : FunsB P L) (hf : ∃ fn, P.funcs[f]? = some fn) (hkd : kd ≠ .early) {cd : Code} (hc : codeOk P L false cd = true) (hg : P.globals.size ≤ W.heap.size) (D S M : Nat → Prop) (hcov : Cov (gr P W D S M) r) (Rel : Array Value → World → Prop) (hR : Carried L P (gr P W D S M) Rel) (hl : ph.live) (base : List Frame)
    (h : ∀ T, cd.wp P (fun e a w' => e = .normal ∧ a.defers = [] ∧ Rel a.tmps w') ⟨mrow (· ∈ L) (gr P W D S M) t, []⟩ (on (gh L P W D S M) T 0))
    (next : ∀ (t' : Array Value) (ρ : Ren) (r' : Rts) (W' : World), Rel t' W' → Ext (gr P W D S M) ρ → Way (gr P W D S M) r W ρ r' W' → (∃ t ws, Co.RR (· ∈ L) ρ t t' ∧ WR (· ∈ L) ρ ws W' ∧ Rel t ws) → WkE P ty Iv Wg c J ph r' (G { fn := f, tmps := t', todo := k, defers := ds, mode := .run, kind := kd } base) W') :
    WkE P ty Iv Wg c J ph r (G { fn := f, tmps := t, todo := .code cd :: k, defers := ds, mode := .run, kind := kd } base) W := by
  have hin := in_start (k := k) (ds := ds) (t := t) hF hf hkd hc hg hR h
  exact wk_in (B := ⟨k, ds, kd, none, some f⟩) (ρs := gr P W D S M) (r0 := r) (W0 := W) hF hR hl base rfl (fun s ρ fr' W' r' _ ha _ => by
    obtain ⟨_, n, og, oq, _, e, _⟩ := ha
    cases e) (fun _ => next) _ hin.fin.acc _ _ [] W r hin (Way.refl hcov W)
/-- .. with one operation that is stepped by hand -/
theorem wk_strS (hF : FunsB P L) (hf : ∃ fn, P.funcs[f]? = some fn) (hkd : kd ≠ .early) {id n : Nat} {og oq : Array Oper} (hsp : SpOk n og oq) (hc : codeOk P L false (.region id og true) = true) (hg : P.globals.size ≤ W.heap.size) (D S M : Nat → Prop) (hcov : Cov (gr P W D S M) r) (Rel : Array Value → World → Prop) (hR : Carried L P (gr P W D S M) Rel) (hl : ph.live) (base : List Frame)
    (h : ∀ T, (Code.region id og true).wp P (fun e a w' => e = .normal ∧ a.defers = [] ∧ Rel a.tmps w') ⟨mrow (· ∈ L) (gr P W D S M) t, []⟩ (on (gh L P W D S M) T 0))
    (here : ∀ (rest : List Nat) (tg t' : Array Value) (ρ : Ren) (r' : Rts) (ws W' : World), Here L P Rel f n og (gr P W D S M) ρ rest tg t' ws W' → Way (gr P W D S M) r W ρ r' W' → WkE P ty Iv Wg c J ph r' (G { fn := f, tmps := t', todo := .inRegion oq (n :: rest) :: k, defers := ds, mode := .run, kind := kd } base) W') :
    WkE P ty Iv Wg c J ph r (G { fn := f, tmps := t, todo := .code (.region id oq true) :: k, defers := ds, mode := .run, kind := kd } base) W := by
  have hin := in_startS (k := k) (ds := ds) (t := t) hF hf hkd hsp hc hg hR h
  exact wk_in (B := ⟨k, ds, kd, some (n, og, oq), some f⟩) (ρs := gr P W D S M) (r0 := r) (W0 := W) hF hR hl base rfl (fun s ρ fr' W' r' hi ha hw => by
    obtain ⟨rest, tg, t', e, hh⟩ := here_of hi ha
    rw [e]
    exact here rest tg t' ρ r' s.w W' hh hw) (fun e => by cases e) _ hin.fin.acc _ _ [] W r hin (Way.refl hcov W)
end worker
section starter
variable {ty : TypeId} {Post : Value → World → Prop} {σ : Sg} {d : Nat}
/-- A STRETCH OF THE STARTER'S -/
theorem me_str (hF : FunsB P L) (hf : ∃ fn, P.funcs[f]? = some fn) (hkd : kd ≠ .early) {cd : Code} (hc : codeOk P L false cd = true) (hg : P.globals.size ≤ W.heap.size) (D S M : Nat → Prop) (hcov : Cov (gr P W D S M) r) (Rel : Array Value → World → Prop) (hR : Carried L P (gr P W D S M) Rel) (base : List Frame)
    (h : ∀ T, cd.wp P (fun e a w' => e = .normal ∧ a.defers = [] ∧ Rel a.tmps w') ⟨mrow (· ∈ L) (gr P W D S M) t, []⟩ (on (gh L P W D S M) T 0))
    (next : ∀ (t' : Array Value) (ρ : Ren) (r' : Rts) (W' : World), Rel t' W' → Ext (gr P W D S M) ρ → Way (gr P W D S M) r W ρ r' W' → (∃ t ws, Co.RR (· ∈ L) ρ t t' ∧ WR (· ∈ L) ρ ws W' ∧ Rel t ws) → ME P ty Post σ d r' (G { fn := f, tmps := t', todo := k, defers := ds, mode := .run, kind := kd } base) W') :
    ME P ty Post σ d r (G { fn := f, tmps := t, todo := .code cd :: k, defers := ds, mode := .run, kind := kd } base) W := by
  have hin := in_start (k := k) (ds := ds) (t := t) hF hf hkd hc hg hR h
  exact me_in (B := ⟨k, ds, kd, none, some f⟩) (ρs := gr P W D S M) (r0 := r) (W0 := W) hF hR base rfl (fun s ρ fr' W' r' _ ha _ => by
    obtain ⟨_, n, og, oq, _, e, _⟩ := ha
    cases e) (fun _ => next) _ hin.fin.acc _ _ [] W r hin (Way.refl hcov W)
end starter
end
end Cr
end

section
namespace Cr
open Go Go.Conc Co Go.RowKit
section
variable {r : Rts} {w w1 : World}
theorem Turn.cell {X : Loc → Prop} (h : Turn X w w1) {a : Addr} {v : Value} (hv : w.cell? a = some v) (hr : ¬ X (.cell ⟨a.block, a.off, none⟩)) : w1.cell? a = some v := by
  unfold World.cell? at hv ⊢
  generalize h1 : w.heap[a.block]? = o at hv
  match o, h1, hv with
  | some (.cells c t fr), h1, hv =>
    have hlt := (Array.getElem?_eq_some_iff.1 h1).1
    rcases h.blk _ hlt with k | ⟨_, k, _⟩
    · rcases k with k | ⟨x, y, t', fr', e1, e2, e3, e4⟩
      · rw [k, h1]; exact hv
      · rw [h1] at e1
        simp only [Option.some.injEq, Obj.cells.injEq] at e1
        obtain ⟨rfl, rfl, rfl⟩ := e1
        rw [e2]
        simp only at hv ⊢
        split at hv
        · cases hv
        · next hs => rw [if_neg hs, e4 _ hr]; exact hv
    · rw [h1] at k; exact k.elim
theorem Rely.cell (h : Rely r w w1) {a : Addr} {v : Value} (hv : w.cell? a = some v) (hr : r.rd (.cell ⟨a.block, a.off, none⟩)) : w1.cell? a = some v := Turn.cell h hv fun c => c hr
theorem cell_lt {a : Addr} {v : Value} (hv : w.cell? a = some v) : a.block < w.heap.size := by
  unfold World.cell? at hv
  generalize h1 : w.heap[a.block]? = o at hv
  match o, h1, hv with
  | some (.cells c t fr), h1, hv => exact (Array.getElem?_eq_some_iff.1 h1).1
theorem cell_block {a : Addr} {v : Value} (hv : w.cell? a = some v) : ∃ c t fr, w.heap[a.block]? = some (.cells c t fr) := by
  unfold World.cell? at hv
  generalize h1 : w.heap[a.block]? = o at hv
  match o, h1, hv with
  | some (.cells c t fr), h1, hv => exact ⟨c, t, fr, rfl⟩
/-- a row of cells, its cell i not frozen -/
def Row (w : World) (b i : Nat) : Prop := ∃ c t fr, w.heap[b]? = some (.cells c t fr) ∧ i < c.size ∧ ¬ (fr.1 ≤ i ∧ i < fr.2)
theorem Row.rely {X : Loc → Prop} {b i : Nat} (h : Row w b i) (k : Turn X w w1) : Row w1 b i := by
  obtain ⟨c, t, fr, h1, h2, h3⟩ := h
  rcases k.blk _ (Array.getElem?_eq_some_iff.1 h1).1 with k | ⟨_, k, _⟩
  · rcases k with k | ⟨x, y, t', fr', e1, e2, e3, e4⟩
    · exact ⟨c, t, fr, k.trans h1, h2, h3⟩
    · rw [h1] at e1
      simp only [Option.some.injEq, Obj.cells.injEq] at e1
      obtain ⟨rfl, rfl, rfl⟩ := e1
      exact ⟨y, t, fr, e2, by rw [e3]; exact h2, h3⟩
  · rw [h1] at k; exact k.elim
theorem Row.cell {b i : Nat} (h : Row w b i) : ∃ u, w.cell? ⟨b, i, none⟩ = some u := by
  obtain ⟨c, t, fr, h1, h2, h3⟩ := h
  exact ⟨c[i], by simp [World.cell?, h1, h2]⟩
theorem Row.thaw {b i : Nat} (h : Row w b i) : w.frozen? ⟨b, i, none⟩ = false := by
  obtain ⟨c, t, fr, h1, h2, h3⟩ := h
  simp only [World.frozen?, h1]
  simpa using h3
theorem Row.set {b i : Nat} (h : Row w b i) (v : Value) : (w.setCell ⟨b, i, none⟩ v).cell? ⟨b, i, none⟩ = some v := by
  obtain ⟨c, t, fr, h1, h2, h3⟩ := h
  simp [World.cell?, World.setCell, Array.getElem?_modify, h1, h2]
theorem evok_read {a : Addr} {S : Loc → Prop} {main sync : Bool} {n n' : Nat} (hr : r.rd (.cell a)) (hn : a.block < n') : EvOk r S main n n' ⟨.cell a, false, sync⟩ := by
  refine ⟨fun x hx _ => .inr (.inl ?_), by simp, by simp, by simp, hn⟩
  simp only [MemAct.ofEvent, MemAct.touch?, Option.some.injEq] at hx
  subst hx
  exact ⟨hr, fun c => by cases c⟩
theorem evok_write {a : Addr} {S : Loc → Prop} {main sync : Bool} {n n' : Nat} (hr : r.rd (.cell a)) (hw : r.wr (.cell a)) (hn : a.block < n') : EvOk r S main n n' ⟨.cell a, true, sync⟩ := by
  refine ⟨fun x hx _ => .inr (.inl ?_), by simp, by simp, by simp, hn⟩
  simp only [MemAct.ofEvent, MemAct.touch?, Option.some.injEq] at hx
  subst hx
  exact ⟨hr, fun _ => hw⟩
theorem guar_store {a : Addr} {S : Loc → Prop} {main : Bool} {v : Value} (hr : r.rd (.cell ⟨a.block, a.off, none⟩)) (hw : r.wr (.cell ⟨a.block, a.off, none⟩)) (hs : a.spot = none) (hn : a.block < w.heap.size) : Guar r S main w (w.setCell a v) #[⟨.cell a, true, false⟩] := by
  obtain ⟨b, o, s⟩ := a
  obtain rfl : s = none := hs
  refine ⟨Turn.setCell w _ v hw, fun e he => ?_⟩
  simp only [List.mem_toArray, List.mem_cons, List.not_mem_nil, or_false] at he
  subst he
  exact evok_write hr hw (by simpa [World.setCell] using hn)
theorem size_setCell (w : World) (a : Addr) (v : Value) : (w.setCell a v).heap.size = w.heap.size := by simp [World.setCell]
end
section
variable {P : Program} {ty : TypeId} {Iv : World → Prop} {Wg c : Nat} {J : Jb} {ph : WPh} {r : Rts} {g g' : Goroutine} {w : World} {Post : Value → World → Prop} {σ : Sg} {d : Nat}
/-- a step that is the same in every world and lists nothing -/
theorem wk_ctl (hl : ph.live) (hr : g.status = .running) (h : ∀ w1, stepG P false g w1 = .go g' w1 #[]) (hr' : g'.status = .running) (hT : WkE P ty Iv Wg c J ph r g' w) : WkE P ty Iv Wg c J ph r g w :=
  WkE.silent hl hr fun w1 h1 _ => ⟨g', w1, #[], h w1, guar_none _, hr', by rw [new_self]; exact hT.rely h1⟩
theorem me_ctl (hr : g.status = .running) (h : ∀ w1, stepG P true g w1 = .go g' w1 #[]) (hT : ME P ty Post σ d r g' w) : ME P ty Post σ d r g w :=
  ME.silent hr fun w1 h1 _ => ⟨g', w1, #[], h w1, guar_none _, by rw [new_self]; exact hT.rely h1⟩
end
end Cr
namespace Co
open Go
theorem OrdInv.lt {ops : Array Oper} {l : List Nat} (h : OrdInv ops l) : ∀ j ∈ l, j < ops.size := fun j hj => by
  obtain ⟨x, h1, h2, _⟩ := h
  have hf := ordered_fresh h2 hj
  rcases Nat.lt_or_ge j ops.size with c | c
  · exact c
  · rw [Array.getD_eq_getD_getElem?, Array.getElem?_eq_none (by omega)] at hf
    cases hf
end Co
end
