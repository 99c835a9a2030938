/- PLAIN LAW of the model: how it is shown that a worker, or the starter, is on its way (no program text in sight). -/
import Derived.Test.YtienepcknafddaaDoorM19
import Derived.Conc.WgGenN3
set_option linter.unusedVariables false
set_option linter.unusedSimpArgs false
section
namespace Cr
open Go Go.Conc
open Go.ConcR (KK WgAt stA smA rd wr mk DC0)
open Go.ConcN (WgLive ShN)
theorem pick {α A : Type} {p : α → Prop} {Q : α → A → Prop} (a0 : A) (h : ∀ w, p w → ∃ a, Q w a) : ∃ F : α → A, ∀ w, p w → Q w (F w) := by
  have : ∀ w, ∃ a, p w → Q w a := fun w => by
    by_cases hw : p w
    · obtain ⟨a, ha⟩ := h w hw
      exact ⟨a, fun _ => ha⟩
    · exact ⟨a0, fun c => absurd c hw⟩
  exact ⟨fun w => (this w).choose, fun w => (this w).choose_spec⟩
section
variable {P : Program} {ty : TypeId} {Iv : World → Prop} {Wg c : Nat} {J : Jb} {ph : WPh} {r : Rts} {g : Goroutine} {w : World}
variable (P ty Iv Wg c J) in
def WkE (ph : WPh) (r : Rts) (g : Goroutine) (w : World) : Prop := ∃ T, Wk P ty Iv Wg c J T ph r g w
theorem WkE.rely {w' : World} (h : WkE P ty Iv Wg c J ph r g w) (k : Rely r w w') : WkE P ty Iv Wg c J ph r g w' := let ⟨T, h⟩ := h; ⟨T, h.rely k⟩
theorem WkE.silent (hl : ph.live) (hr : g.status = .running) (h : ∀ w1, Rely r w w1 → Iv w1 → ∃ g' w' es, stepG P false g w1 = .go g' w' es ∧ Guar r (fun _ => False) false w1 w' es ∧ g'.status = .running ∧ WkE P ty Iv Wg c J ph (r.new w1.heap.size w'.heap.size) g' w') : WkE P ty Iv Wg c J ph r g w := by
  obtain ⟨F, hF⟩ := pick (α := World) (A := Goroutine × World × Array Event × Tr Ix) (p := fun w1 => Rely r w w1 ∧ Iv w1)
    (Q := fun w1 p => stepG P false g w1 = .go p.1 p.2.1 p.2.2.1 ∧ Guar r (fun _ => False) false w1 p.2.1 p.2.2.1 ∧ p.1.status = .running ∧ Wk P ty Iv Wg c J p.2.2.2 ph (r.new w1.heap.size p.2.1.heap.size) p.1 p.2.1) (g, w, #[], .leaf) (fun w1 hw => by
      obtain ⟨g', w', es, a, b, e, T, d⟩ := h w1 hw.1 hw.2
      exact ⟨(g', w', es, T), a, b, e, d⟩)
  exact ⟨.node fun i => (F i.1).2.2.2, .silent (fun w1 => (F w1).1) (fun w1 => (F w1).2.1) (fun w1 => (F w1).2.2.1) hl hr (fun w1 a b => ⟨(hF w1 ⟨a, b⟩).1, (hF w1 ⟨a, b⟩).2.1, (hF w1 ⟨a, b⟩).2.2.1⟩) (fun w1 a b => (hF w1 ⟨a, b⟩).2.2.2)⟩
theorem WkE.idle (hl : ¬ ph.live) (hr : g.status = .running) (h : ∀ w1, Rely .none w w1 → Iv w1 → ∃ g', stepG P false g w1 = .go g' w1 #[] ∧ g'.status = .running ∧ WkE P ty Iv Wg c J ph .none g' w1) : WkE P ty Iv Wg c J ph .none g w := by
  obtain ⟨F, hF⟩ := pick (α := World) (A := Goroutine × Tr Ix) (p := fun w1 => Rely .none w w1 ∧ Iv w1)
    (Q := fun w1 p => stepG P false g w1 = .go p.1 w1 #[] ∧ p.1.status = .running ∧ Wk P ty Iv Wg c J p.2 ph .none p.1 w1) (g, .leaf) (fun w1 hw => by
      obtain ⟨g', a, e, T, d⟩ := h w1 hw.1 hw.2
      exact ⟨(g', T), a, e, d⟩)
  exact ⟨.node fun i => (F i.1).2, .idle (fun w1 => (F w1).1) hl hr (fun w1 a b => ⟨(hF w1 ⟨a, b⟩).1, (hF w1 ⟨a, b⟩).2.1⟩) (fun w1 a b => (hF w1 ⟨a, b⟩).2.2)⟩
theorem WkE.rel (hr : g.status = .running) (h : ∀ w1, Rely r w w1 → Iv w1 → J undef r w1 ∧ ∃ g', stepG P false g w1 = .go g' w1 #[mk (.releaseMerge (stA Wg))] ∧ g'.status = .running ∧ WkE P ty Iv Wg c J .laid .none g' w1) : WkE P ty Iv Wg c J .calm r g w := by
  obtain ⟨F, hF⟩ := pick (α := World) (A := Goroutine × Tr Ix) (p := fun w1 => Rely r w w1 ∧ Iv w1)
    (Q := fun w1 p => stepG P false g w1 = .go p.1 w1 #[mk (.releaseMerge (stA Wg))] ∧ p.1.status = .running ∧ Wk P ty Iv Wg c J p.2 .laid .none p.1 w1) (g, .leaf) (fun w1 hw => by
      obtain ⟨_, g', a, e, T, d⟩ := h w1 hw.1 hw.2
      exact ⟨(g', T), a, e, d⟩)
  exact ⟨.node fun i => (F i.1).2, .rel (fun w1 => (F w1).1) hr (fun w1 a b => ⟨(h w1 a b).1, (hF w1 ⟨a, b⟩).1, (hF w1 ⟨a, b⟩).2.1⟩) (fun w1 a b => (hF w1 ⟨a, b⟩).2.2)⟩
theorem WkE.dis (hr : g.status = .running) (h : ∀ w1, Rely .none w w1 → Iv w1 → ∃ g', stepG P false g w1 = .go g' w1 #[mk .disable] ∧ g'.status = .running ∧ WkE P ty Iv Wg c J .deaf .none g' w1) : WkE P ty Iv Wg c J .laid .none g w := by
  obtain ⟨F, hF⟩ := pick (α := World) (A := Goroutine × Tr Ix) (p := fun w1 => Rely .none w w1 ∧ Iv w1)
    (Q := fun w1 p => stepG P false g w1 = .go p.1 w1 #[mk .disable] ∧ p.1.status = .running ∧ Wk P ty Iv Wg c J p.2 .deaf .none p.1 w1) (g, .leaf) (fun w1 hw => by
      obtain ⟨g', a, e, T, d⟩ := h w1 hw.1 hw.2
      exact ⟨(g', T), a, e, d⟩)
  exact ⟨.node fun i => (F i.1).2, .dis (fun w1 => (F w1).1) hr (fun w1 a b => ⟨(hF w1 ⟨a, b⟩).1, (hF w1 ⟨a, b⟩).2.1⟩) (fun w1 a b => (hF w1 ⟨a, b⟩).2.2)⟩
theorem WkE.dec (hr : g.status = .running) (h : ∀ w1, Rely .none w w1 → Iv w1 → ∀ v wt : Nat, wt ≤ 1 → v < 2147483647 → WgAt ty Wg w1 ((v + 1) * KK + wt) 0 → ∃ g', stepG P false g w1 = .go g' (w1.setCell (stA Wg) (.int .u64 (v * KK + wt))) #[rd (stA Wg), wr (stA Wg)] ∧
    ((v = 0 ∧ wt = 1) → g'.status = .running ∧ WkE P ty Iv Wg c J .n2 .none g' (w1.setCell (stA Wg) (.int .u64 (v * KK + wt)))) ∧ (¬ (v = 0 ∧ wt = 1) → ∃ q, QuitsD P q 1 g')) : WkE P ty Iv Wg c J .deaf .none g w := by
  obtain ⟨F, hF⟩ := pick (α := World × Nat × Nat) (A := Goroutine × Tr Ix) (p := fun x => (Rely .none w x.1 ∧ Iv x.1) ∧ x.2.2 ≤ 1 ∧ x.2.1 < 2147483647 ∧ WgAt ty Wg x.1 ((x.2.1 + 1) * KK + x.2.2) 0)
    (Q := fun x p => stepG P false g x.1 = .go p.1 (x.1.setCell (stA Wg) (.int .u64 (x.2.1 * KK + x.2.2))) #[rd (stA Wg), wr (stA Wg)] ∧ ((x.2.1 = 0 ∧ x.2.2 = 1) → p.1.status = .running ∧ Wk P ty Iv Wg c J p.2 .n2 .none p.1 (x.1.setCell (stA Wg) (.int .u64 (x.2.1 * KK + x.2.2)))) ∧ (¬ (x.2.1 = 0 ∧ x.2.2 = 1) → ∃ q, QuitsD P q 1 p.1 ∧ p.2 = Tr.nat q)) (g, .leaf) (fun x hw => by
      obtain ⟨g', a, b, d⟩ := h x.1 hw.1.1 hw.1.2 x.2.1 x.2.2 hw.2.1 hw.2.2.1 hw.2.2.2
      by_cases hc : x.2.1 = 0 ∧ x.2.2 = 1
      · obtain ⟨b1, T, b2⟩ := b hc
        exact ⟨(g', T), a, fun _ => ⟨b1, b2⟩, fun n => absurd hc n⟩
      · obtain ⟨q, hq⟩ := d hc
        exact ⟨(g', Tr.nat q), a, fun n => absurd n hc, fun _ => ⟨q, hq, rfl⟩⟩)
  exact ⟨.node fun i => (F (i.1, i.2.2.2.1, i.2.2.2.2)).2, .dec (fun w1 v wt => (F (w1, v, wt)).1) hr
    (fun w1 a b v wt h1 h2 h3 => let x := hF (w1, v, wt) ⟨⟨a, b⟩, h1, h2, h3⟩; ⟨x.1, fun hc => (x.2.1 hc).1, x.2.2⟩)
    (fun w1 a b v wt hc h3 => ((hF (w1, v, wt) ⟨⟨a, b⟩, by show wt ≤ 1; omega, by show v < _; omega, h3⟩).2.1 hc).2)⟩
theorem WkE.d2 (hr : g.status = .running) (h : ∀ w1, Rely .none w w1 → WgAt ty Wg w1 1 0 → ∃ g', stepG P false g w1 = .go g' w1 #[rd (stA Wg)] ∧ g'.status = .running ∧ WkE P ty Iv Wg c J .n3 .none g' w1) : WkE P ty Iv Wg c J .n2 .none g w := by
  obtain ⟨F, hF⟩ := pick (α := World) (A := Goroutine × Tr Ix) (p := fun w1 => Rely .none w w1 ∧ WgAt ty Wg w1 1 0)
    (Q := fun w1 p => stepG P false g w1 = .go p.1 w1 #[rd (stA Wg)] ∧ p.1.status = .running ∧ Wk P ty Iv Wg c J p.2 .n3 .none p.1 w1) (g, .leaf) (fun w1 hw => by
      obtain ⟨g', a, e, T, d⟩ := h w1 hw.1 hw.2
      exact ⟨(g', T), a, e, d⟩)
  exact ⟨.node fun i => (F i.1).2, .d2 (fun w1 => (F w1).1) hr (fun w1 a b => ⟨(hF w1 ⟨a, b⟩).1, (hF w1 ⟨a, b⟩).2.1⟩) (fun w1 a b => (hF w1 ⟨a, b⟩).2.2)⟩
theorem WkE.d3 (hr : g.status = .running) (h : ∀ w1, Rely .none w w1 → WgAt ty Wg w1 1 0 → ∃ g', stepG P false g w1 = .go g' (w1.setCell (stA Wg) (.int .u64 0)) #[wr (stA Wg)] ∧ g'.status = .running ∧ WkE P ty Iv Wg c J .n4 .none g' (w1.setCell (stA Wg) (.int .u64 0))) : WkE P ty Iv Wg c J .n3 .none g w := by
  obtain ⟨F, hF⟩ := pick (α := World) (A := Goroutine × Tr Ix) (p := fun w1 => Rely .none w w1 ∧ WgAt ty Wg w1 1 0)
    (Q := fun w1 p => stepG P false g w1 = .go p.1 (w1.setCell (stA Wg) (.int .u64 0)) #[wr (stA Wg)] ∧ p.1.status = .running ∧ Wk P ty Iv Wg c J p.2 .n4 .none p.1 (w1.setCell (stA Wg) (.int .u64 0))) (g, .leaf) (fun w1 hw => by
      obtain ⟨g', a, e, T, d⟩ := h w1 hw.1 hw.2
      exact ⟨(g', T), a, e, d⟩)
  exact ⟨.node fun i => (F i.1).2, .d3 (fun w1 => (F w1).1) hr (fun w1 a b => ⟨(hF w1 ⟨a, b⟩).1, (hF w1 ⟨a, b⟩).2.1⟩) (fun w1 a b => (hF w1 ⟨a, b⟩).2.2)⟩
theorem WkE.d4 (hr : g.status = .running) (hm : mayWake P g = true) (h : ∀ w1, Rely .none w w1 → WgAt ty Wg w1 0 0 → ∃ g', stepG P false g w1 = .go g' (w1.setCell (smA Wg) (.int .u32 1)) (semEvents (smA Wg)) ∧ ∃ q, QuitsD P q 1 g') : WkE P ty Iv Wg c J .n4 .none g w := by
  obtain ⟨F, hF⟩ := pick (α := World) (A := Goroutine × Nat) (p := fun w1 => Rely .none w w1 ∧ WgAt ty Wg w1 0 0)
    (Q := fun w1 p => stepG P false g w1 = .go p.1 (w1.setCell (smA Wg) (.int .u32 1)) (semEvents (smA Wg)) ∧ QuitsD P p.2 1 p.1) (g, 0) (fun w1 hw => by
      obtain ⟨g', a, q, d⟩ := h w1 hw.1 hw.2
      exact ⟨(g', q), a, d⟩)
  exact ⟨.node fun i => Tr.nat (F i.1).2, .d4 (fun w1 => (F w1).1) hr hm (fun w1 a b => ⟨(hF w1 ⟨a, b⟩).1, _, (hF w1 ⟨a, b⟩).2, rfl⟩)⟩
theorem WkE.send {v z' : Value} (hr : g.status = .running) (h : ∀ w1, Rely r w w1 → Iv w1 → ∃ g2 es, stepG P false g w1 = .comm g2 #[scase c v z'] true .send w1 es ∧ (∀ e ∈ es, EvOk r (fun _ => False) false w1.heap.size w1.heap.size e) ∧ WkE P ty Iv Wg c J (.sent v) r (served g2 undef) w1) : WkE P ty Iv Wg c J .open_ r g w := by
  obtain ⟨F, hF⟩ := pick (α := World) (A := Goroutine × Array Event × Tr Ix) (p := fun w1 => Rely r w w1 ∧ Iv w1)
    (Q := fun w1 p => stepG P false g w1 = .comm p.1 #[scase c v z'] true .send w1 p.2.1 ∧ (∀ e ∈ p.2.1, EvOk r (fun _ => False) false w1.heap.size w1.heap.size e) ∧ Wk P ty Iv Wg c J p.2.2 (.sent v) r (served p.1 undef) w1) (g, #[], .leaf) (fun w1 hw => by
      obtain ⟨g', es, a, e, T, d⟩ := h w1 hw.1 hw.2
      exact ⟨(g', es, T), a, e, d⟩)
  exact ⟨.node fun i => (F i.1).2.2, .send (fun w1 => (F w1).1) (fun w1 => (F w1).2.1) hr (fun w1 a b => ⟨(hF w1 ⟨a, b⟩).1, (hF w1 ⟨a, b⟩).2.1⟩) (fun w1 a b => (hF w1 ⟨a, b⟩).2.2)⟩
theorem WkE.close {v : Value} (hr : g.status = .running) (hm : mayWake P g = true) (ho : r.rd (.obj c)) (h : ∀ w1, Rely r w w1 → Iv w1 → J v r w1 ∧ ∃ g', (∃ q, QuitsD P q 0 g') ∧ ∀ cap buf s k tm, w1.heap[c]? = some (.chan cap buf false s k tm) → stepG P false g w1 = .go g' (w1.setChan c cap buf true s k tm) (closeEvents c)) : WkE P ty Iv Wg c J (.sent v) r g w := by
  obtain ⟨F, hF⟩ := pick (α := World) (A := Goroutine × Nat) (p := fun w1 => Rely r w w1 ∧ Iv w1)
    (Q := fun w1 p => J v r w1 ∧ QuitsD P p.2 0 p.1 ∧ ∀ cap buf s k tm, w1.heap[c]? = some (.chan cap buf false s k tm) → stepG P false g w1 = .go p.1 (w1.setChan c cap buf true s k tm) (closeEvents c)) (g, 0) (fun w1 hw => by
      obtain ⟨a, g', ⟨q, b⟩, d⟩ := h w1 hw.1 hw.2
      exact ⟨(g', q), a, b, d⟩)
  exact ⟨.node fun i => Tr.nat (F i.1).2, .close (fun w1 => (F w1).1) hr hm ho (fun w1 a b => ⟨(hF w1 ⟨a, b⟩).1, ⟨_, (hF w1 ⟨a, b⟩).2.1, rfl⟩, (hF w1 ⟨a, b⟩).2.2⟩)⟩
/-- the worlds between two steps -/
def RR (r : Rts) (Iv : World → Prop) (w w1 : World) : Prop := Rely r w w1 ∧ Iv w1
theorem guar_none {S : Loc → Prop} {main : Bool} (w : World) : Guar r S main w w #[] := ⟨Turn.refl _ _, by simp⟩
theorem goes_next {main : Bool} {Iv : World → Prop} {D : World → World → Array Event → Prop} {Stop : Goroutine → World → Prop} (hsr : ∀ g w, Stop g w → g.status = .running) {m : Nat} {g : Goroutine} {w : World} (hi : Iv w) (h : Goes P main (RR r Iv) D Stop m g w) : g.status = .running := by
  cases m with
  | zero => exact hsr _ _ (h w ⟨Rely.refl _ _, hi⟩)
  | succ m => exact h.elim (fun h => hsr _ _ (h w ⟨Rely.refl _ _, hi⟩)) (·.1)
/-- a walk of silent steps to a stop -/
theorem WkE.goes {Stop : Goroutine → World → Prop} (hl : ph.live) (hsr : ∀ g w, Stop g w → g.status = .running) (hst : ∀ g w, g.status = .running → (∀ w1, RR r Iv w w1 → Stop g w1) → WkE P ty Iv Wg c J ph r g w) :
    ∀ (m : Nat) (g : Goroutine) (w : World), g.status = .running → Goes P false (RR r Iv) DC0 Stop m g w → WkE P ty Iv Wg c J ph r g w
  | 0, g, w, hr, h => hst g w hr h
  | m + 1, g, w, hr, h => by
    rcases h with h | ⟨_, h⟩
    · exact hst g w hr h
    · refine WkE.silent hl hr fun w1 h1 h2 => ?_
      have := h w1 ⟨h1, h2⟩
      cases hs : stepG P false g w1 with
      | go g' w' es =>
        rw [hs, goes_go] at this
        obtain ⟨⟨rfl, rfl⟩, hg⟩ := this
        have hrun := goes_next hsr h2 hg
        exact ⟨g', w', #[], rfl, guar_none _, hrun, by rw [new_self]; exact WkE.goes hl hsr hst m g' w' hrun hg⟩
      | _ => rw [hs] at this; exact this.elim
theorem WkE.goesI {Stop : Goroutine → World → Prop} (hl : ¬ ph.live) (hsr : ∀ g w, Stop g w → g.status = .running) (hst : ∀ g w, g.status = .running → (∀ w1, RR .none Iv w w1 → Stop g w1) → WkE P ty Iv Wg c J ph .none g w) :
    ∀ (m : Nat) (g : Goroutine) (w : World), g.status = .running → Goes P false (RR .none Iv) DC0 Stop m g w → WkE P ty Iv Wg c J ph .none g w
  | 0, g, w, hr, h => hst g w hr h
  | m + 1, g, w, hr, h => by
    rcases h with h | ⟨_, h⟩
    · exact hst g w hr h
    · refine WkE.idle hl hr fun w1 h1 h2 => ?_
      have := h w1 ⟨h1, h2⟩
      cases hs : stepG P false g w1 with
      | go g' w' es =>
        rw [hs, goes_go] at this
        obtain ⟨⟨rfl, rfl⟩, hg⟩ := this
        have hrun := goes_next hsr h2 hg
        exact ⟨g', rfl, hrun, WkE.goesI hl hsr hst m g' w' hrun hg⟩
      | _ => rw [hs] at this; exact this.elim
end
section
variable {P : Program} {ty : TypeId} {Post : Value → World → Prop} {σ : Sg} {d : Nat} {r : Rts} {g : Goroutine} {w : World} {Wg : Nat} {js : List Jb} {cs : List Ch}
variable (P ty Post) in
def ME (σ : Sg) (d : Nat) (r : Rts) (g : Goroutine) (w : World) : Prop := ∃ T, MRun P ty Post T σ d r g w
theorem ME.rely {w' : World} (h : ME P ty Post σ d r g w) (k : Rely r w w') : ME P ty Post σ d r g w' := let ⟨T, h⟩ := h; ⟨T, h.rely k⟩
theorem ME.running (h : ME P ty Post σ d r g w) : g.status = .running := let ⟨_, h⟩ := h; h.running
theorem ME.end_ (hr : g.status = .running) (h : ∀ w1, Rely r w w1 → ∃ v es, stepG P true g w1 = .ended (.done v) w1 es ∧ (∀ e ∈ es, EvOk r (fun _ => False) true w1.heap.size w1.heap.size e) ∧ Post v w1) : ME P ty Post (.chs []) 0 r g w := ⟨.leaf, .end_ hr h⟩
theorem ME.silent (hr : g.status = .running) (h : ∀ w1, Rely r w w1 → σ.iv ty w1 → ∃ g' w' es, stepG P true g w1 = .go g' w' es ∧ Guar r σ.sy true w1 w' es ∧ ME P ty Post σ d (r.new w1.heap.size w'.heap.size) g' w') : ME P ty Post σ d r g w := by
  obtain ⟨F, hF⟩ := pick (α := World) (A := Goroutine × World × Array Event × Tr Ix) (p := fun w1 => Rely r w w1 ∧ σ.iv ty w1)
    (Q := fun w1 p => stepG P true g w1 = .go p.1 p.2.1 p.2.2.1 ∧ Guar r σ.sy true w1 p.2.1 p.2.2.1 ∧ MRun P ty Post p.2.2.2 σ d (r.new w1.heap.size p.2.1.heap.size) p.1 p.2.1) (g, w, #[], .leaf) (fun w1 hw => by
      obtain ⟨g', w', es, a, b, T, d⟩ := h w1 hw.1 hw.2
      exact ⟨(g', w', es, T), a, b, d⟩)
  exact ⟨.node fun i => (F i.1).2.2.2, .silent (fun w1 => (F w1).1) (fun w1 => (F w1).2.1) (fun w1 => (F w1).2.2.1) hr (fun w1 a b => ⟨(hF w1 ⟨a, b⟩).1, (hF w1 ⟨a, b⟩).2.1⟩) (fun w1 a b => (hF w1 ⟨a, b⟩).2.2)⟩
theorem ME.dis (hr : g.status = .running) (h : ∀ w1, Rely r w w1 → σ.iv ty w1 → ∃ g', stepG P true g w1 = .go g' w1 #[mk .disable] ∧ ME P ty Post σ (d + 1) r g' w1) : ME P ty Post σ d r g w := by
  obtain ⟨F, hF⟩ := pick (α := World) (A := Goroutine × Tr Ix) (p := fun w1 => Rely r w w1 ∧ σ.iv ty w1)
    (Q := fun w1 p => stepG P true g w1 = .go p.1 w1 #[mk .disable] ∧ MRun P ty Post p.2 σ (d + 1) r p.1 w1) (g, .leaf) (fun w1 hw => by
      obtain ⟨g', a, T, d⟩ := h w1 hw.1 hw.2
      exact ⟨(g', T), a, d⟩)
  exact ⟨.node fun i => (F i.1).2, .dis (fun w1 => (F w1).1) hr (fun w1 a b => (hF w1 ⟨a, b⟩).1) (fun w1 a b => (hF w1 ⟨a, b⟩).2)⟩
theorem ME.en (hr : g.status = .running) (h : ∀ w1, Rely r w w1 → σ.iv ty w1 → ∃ g', stepG P true g w1 = .go g' w1 #[mk .enable] ∧ ME P ty Post σ d r g' w1) : ME P ty Post σ (d + 1) r g w := by
  obtain ⟨F, hF⟩ := pick (α := World) (A := Goroutine × Tr Ix) (p := fun w1 => Rely r w w1 ∧ σ.iv ty w1)
    (Q := fun w1 p => stepG P true g w1 = .go p.1 w1 #[mk .enable] ∧ MRun P ty Post p.2 σ d r p.1 w1) (g, .leaf) (fun w1 hw => by
      obtain ⟨g', a, T, d⟩ := h w1 hw.1 hw.2
      exact ⟨(g', T), a, d⟩)
  exact ⟨.node fun i => (F i.1).2, .en (fun w1 => (F w1).1) hr (fun w1 a b => (hF w1 ⟨a, b⟩).1) (fun w1 a b => (hF w1 ⟨a, b⟩).2)⟩
theorem ME.group (hr : g.status = .running) (h : ∀ w1, Rely r w w1 → ∃ g' w' es, stepG P true g w1 = .go g' w' es ∧ Guar r (fun _ => False) true w1 w' es ∧ (∀ e ∈ es, (MemAct.ofEvent e).low w1.heap.size) ∧ w'.heap.size = w1.heap.size + 1 ∧ WgAt ty w1.heap.size w' 0 0 ∧ ((∀ l, r.rd l → l.low w1.heap.size) → ME P ty Post (.wg w1.heap.size [] (.idle 0)) 0 r g' w')) : ME P ty Post (.chs []) 0 r g w := by
  obtain ⟨F, hF⟩ := pick (α := World) (A := Goroutine × World × Array Event × Tr Ix) (p := fun w1 => Rely r w w1)
    (Q := fun w1 p => stepG P true g w1 = .go p.1 p.2.1 p.2.2.1 ∧ Guar r (fun _ => False) true w1 p.2.1 p.2.2.1 ∧ (∀ e ∈ p.2.2.1, (MemAct.ofEvent e).low w1.heap.size) ∧ p.2.1.heap.size = w1.heap.size + 1 ∧ WgAt ty w1.heap.size p.2.1 0 0 ∧ ((∀ l, r.rd l → l.low w1.heap.size) → MRun P ty Post p.2.2.2 (.wg w1.heap.size [] (.idle 0)) 0 r p.1 p.2.1)) (g, w, #[], .leaf) (fun w1 hw => by
      obtain ⟨g', w', es, a, b, a1, a2, a3, d⟩ := h w1 hw
      by_cases hl : ∀ l, r.rd l → l.low w1.heap.size
      · obtain ⟨T, d⟩ := d hl
        exact ⟨(g', w', es, T), a, b, a1, a2, a3, fun _ => d⟩
      · exact ⟨(g', w', es, .leaf), a, b, a1, a2, a3, fun c => absurd c hl⟩)
  exact ⟨.node fun i => (F i.1).2.2.2, .group (fun w1 => (F w1).1) (fun w1 => (F w1).2.1) (fun w1 => (F w1).2.2.1) hr (fun w1 a => ⟨(hF w1 a).1, (hF w1 a).2.1, (hF w1 a).2.2.1, (hF w1 a).2.2.2.1, (hF w1 a).2.2.2.2.1⟩) (fun w1 a c => (hF w1 a).2.2.2.2.2 c)⟩
theorem ME.add {n : Nat} (hr : g.status = .running) (hl : js.length < 1000) (h : ∀ w1, Rely r w w1 → ∀ v : Nat, v < 2147483647 → WgAt ty Wg w1 (v * KK) 0 → ∃ g', stepG P true g w1 = .go g' (w1.setCell (stA Wg) (.int .u64 ((v + 1) * KK))) #[rd (stA Wg), wr (stA Wg)] ∧ ME P ty Post (.wg Wg js .pend) d r g' (w1.setCell (stA Wg) (.int .u64 ((v + 1) * KK)))) : ME P ty Post (.wg Wg js (.idle n)) d r g w := by
  obtain ⟨F, hF⟩ := pick (α := World × Nat) (A := Goroutine × Tr Ix) (p := fun x => Rely r w x.1 ∧ x.2 < 2147483647 ∧ WgAt ty Wg x.1 (x.2 * KK) 0)
    (Q := fun x p => stepG P true g x.1 = .go p.1 (x.1.setCell (stA Wg) (.int .u64 ((x.2 + 1) * KK))) #[rd (stA Wg), wr (stA Wg)] ∧ MRun P ty Post p.2 (.wg Wg js .pend) d r p.1 (x.1.setCell (stA Wg) (.int .u64 ((x.2 + 1) * KK)))) (g, .leaf) (fun x hw => by
      obtain ⟨g', a, T, d⟩ := h x.1 hw.1 x.2 hw.2.1 hw.2.2
      exact ⟨(g', T), a, d⟩)
  exact ⟨.node fun i => (F (i.1, i.2.2.2.1)).2, .add (fun w1 v => (F (w1, v)).1) hr hl (fun w1 a v b c => (hF (w1, v) ⟨a, b, c⟩).1) (fun w1 a v b c => (hF (w1, v) ⟨a, b, c⟩).2)⟩
theorem ME.spawnW {J : Jb} {r' rc : Rts} (hr : g.status = .running) (hl : js.length < 1000) (hJ : JSt J) (hsp : Split r r' rc) (h : ∀ w1, Rely r w w1 → WgLive ty Wg w1 → ∃ g' child, stepG P true g w1 = .spawn g' child w1 #[] ∧ WkE P ty (WgLive ty Wg) Wg 0 J .calm rc child w1 ∧ ME P ty Post (.wg Wg (js ++ [J]) (.idle (js.length + 1))) 0 r' g' w1) : ME P ty Post (.wg Wg js .pend) 0 r g w := by
  obtain ⟨F, hF⟩ := pick (α := World) (A := Goroutine × Goroutine × Tr Ix) (p := fun w1 => Rely r w w1 ∧ WgLive ty Wg w1)
    (Q := fun w1 p => stepG P true g w1 = .spawn p.1 p.2.1 w1 #[] ∧ (∃ T, Wk P ty (WgLive ty Wg) Wg 0 J T .calm rc p.2.1 w1) ∧ MRun P ty Post p.2.2 (.wg Wg (js ++ [J]) (.idle (js.length + 1))) 0 r' p.1 w1) (g, g, .leaf) (fun w1 hw => by
      obtain ⟨g', ch, a, b, T, d⟩ := h w1 hw.1 hw.2
      exact ⟨(g', ch, T), a, b, d⟩)
  exact ⟨.node fun i => (F i.1).2.2, .spawnW J (fun w1 => (F w1).1) (fun w1 => (F w1).2.1) (fun _ => r') (fun _ => rc) hr hl hJ (fun w1 a b => ⟨(hF w1 ⟨a, b⟩).1, hsp, (hF w1 ⟨a, b⟩).2.1⟩) (fun w1 a b => (hF w1 ⟨a, b⟩).2.2)⟩
theorem ME.load1 {n : Nat} (hr : g.status = .running) (h : ∀ w1, Rely r w w1 → ∀ v : Nat, v < 2147483648 → v ≤ n → WgAt ty Wg w1 (v * KK) 0 → ∃ g', stepG P true g w1 = .go g' w1 #[rd (stA Wg)] ∧ (v = 0 → ME P ty Post (.wg Wg js .thru) d r g' w1) ∧ (v ≠ 0 → ME P ty Post (.wg Wg js (.seen v)) d r g' w1)) : ME P ty Post (.wg Wg js (.idle n)) d r g w := by
  obtain ⟨F, hF⟩ := pick (α := World × Nat) (A := Goroutine × Tr Ix) (p := fun x => Rely r w x.1 ∧ (x.2 < 2147483648 ∧ x.2 ≤ n) ∧ WgAt ty Wg x.1 (x.2 * KK) 0)
    (Q := fun x p => stepG P true g x.1 = .go p.1 x.1 #[rd (stA Wg)] ∧ (x.2 = 0 → MRun P ty Post p.2 (.wg Wg js .thru) d r p.1 x.1) ∧ (x.2 ≠ 0 → MRun P ty Post p.2 (.wg Wg js (.seen x.2)) d r p.1 x.1)) (g, .leaf) (fun x hw => by
      obtain ⟨g', a, b, e⟩ := h x.1 hw.1 x.2 hw.2.1.1 hw.2.1.2 hw.2.2
      by_cases hc : x.2 = 0
      · obtain ⟨T, hT⟩ := b hc
        exact ⟨(g', T), a, fun _ => hT, fun n => absurd hc n⟩
      · obtain ⟨T, hT⟩ := e hc
        exact ⟨(g', T), a, fun n => absurd n hc, fun _ => hT⟩)
  exact ⟨.node fun i => (F (i.1, i.2.2.2.1)).2, .load1 (fun w1 v => (F (w1, v)).1) hr (fun w1 a v b b2 c => (hF (w1, v) ⟨a, ⟨b, b2⟩, c⟩).1) (fun w1 a c => (hF (w1, 0) ⟨a, ⟨by show 0 < _; omega, Nat.zero_le _⟩, by simpa using c⟩).2.1 rfl) (fun w1 a v b b2 n c => (hF (w1, v) ⟨a, ⟨b, b2⟩, c⟩).2.2 n)⟩
theorem ME.cas {vs : Nat} (hr : g.status = .running) (hv : vs ≠ 0) (hv2 : vs < 2147483648) (h : ∀ w1, Rely r w w1 → ∀ v : Nat, v < 2147483648 → WgAt ty Wg w1 (v * KK) 0 → ∃ g', (v = vs → stepG P true g w1 = .go g' (w1.setCell (stA Wg) (.int .u64 (v * KK + 1))) #[rd (stA Wg), wr (stA Wg)] ∧ ME P ty Post (.wg Wg js .slept) d r g' (w1.setCell (stA Wg) (.int .u64 (v * KK + 1)))) ∧ (v < vs → stepG P true g w1 = .go g' w1 #[rd (stA Wg)] ∧ ME P ty Post (.wg Wg js (.idle v)) d r g' w1)) : ME P ty Post (.wg Wg js (.seen vs)) d r g w := by
  obtain ⟨F, hF⟩ := pick (α := World × Nat) (A := Goroutine × Tr Ix) (p := fun x => Rely r w x.1 ∧ x.2 < 2147483648 ∧ WgAt ty Wg x.1 (x.2 * KK) 0)
    (Q := fun x p => (x.2 = vs → stepG P true g x.1 = .go p.1 (x.1.setCell (stA Wg) (.int .u64 (x.2 * KK + 1))) #[rd (stA Wg), wr (stA Wg)] ∧ MRun P ty Post p.2 (.wg Wg js .slept) d r p.1 (x.1.setCell (stA Wg) (.int .u64 (x.2 * KK + 1)))) ∧ (x.2 < vs → stepG P true g x.1 = .go p.1 x.1 #[rd (stA Wg)] ∧ MRun P ty Post p.2 (.wg Wg js (.idle x.2)) d r p.1 x.1)) (g, .leaf) (fun x hw => by
      obtain ⟨g', a, b⟩ := h x.1 hw.1 x.2 hw.2.1 hw.2.2
      by_cases hc : x.2 = vs
      · obtain ⟨a1, T, hT⟩ := a hc
        exact ⟨(g', T), fun _ => ⟨a1, hT⟩, fun n => by omega⟩
      · by_cases hd : x.2 < vs
        · obtain ⟨a1, T, hT⟩ := b hd
          exact ⟨(g', T), fun n => absurd n hc, fun _ => ⟨a1, hT⟩⟩
        · exact ⟨(g, .leaf), fun n => absurd n hc, fun n => absurd n hd⟩)
  refine ⟨.node fun i => (F (i.1, i.2.2.2.1)).2, .cas (fun w1 v => (F (w1, v)).1) hr hv (fun w1 a v b c => ⟨fun e => ((hF (w1, v) ⟨a, b, c⟩).1 e).1, fun e => ((hF (w1, v) ⟨a, b, c⟩).2 e).1⟩) (fun w1 a c => ?_) (fun w1 a v b n c => ((hF (w1, v) ⟨a, b, c⟩).2 n).2)⟩
  exact ((hF (w1, vs) ⟨a, hv2, c⟩).1 rfl).2
theorem ME.park (hr : g.status = .running) (ho : g.offers = none) (h : ∀ w1, Rely r w w1 → (∃ st, WgAt ty Wg w1 st 0) → stepG P true g w1 = .go { g with status := .blocked } w1 #[])
    (h2 : ∀ w1, Rely r w w1 → WgAt ty Wg w1 0 1 → ∃ g', stepG P true g w1 = .go g' (w1.setCell (smA Wg) (.int .u32 0)) (semEvents (smA Wg)) ∧ ME P ty Post (.wg Wg js .woken) d r g' (w1.setCell (smA Wg) (.int .u32 0))) : ME P ty Post (.wg Wg js .slept) d r g w := by
  obtain ⟨F, hF⟩ := pick (α := World) (A := Goroutine × Tr Ix) (p := fun w1 => Rely r w w1 ∧ WgAt ty Wg w1 0 1)
    (Q := fun w1 p => stepG P true g w1 = .go p.1 (w1.setCell (smA Wg) (.int .u32 0)) (semEvents (smA Wg)) ∧ MRun P ty Post p.2 (.wg Wg js .woken) d r p.1 (w1.setCell (smA Wg) (.int .u32 0))) (g, .leaf) (fun w1 hw => by
      obtain ⟨g', a, T, d⟩ := h2 w1 hw.1 hw.2
      exact ⟨(g', T), a, d⟩)
  exact ⟨.node fun i => (F i.1).2, .park (fun w1 => (F w1).1) hr ho h (fun w1 a b => (hF w1 ⟨a, b⟩).1) (fun w1 a b => (hF w1 ⟨a, b⟩).2)⟩
theorem ME.load2 (hr : g.status = .running) (h : ∀ w1, Rely r w w1 → WgAt ty Wg w1 0 0 → ∃ g', stepG P true g w1 = .go g' w1 #[rd (stA Wg)] ∧ ME P ty Post (.wg Wg js .thru) d r g' w1) : ME P ty Post (.wg Wg js .woken) d r g w := by
  obtain ⟨F, hF⟩ := pick (α := World) (A := Goroutine × Tr Ix) (p := fun w1 => Rely r w w1 ∧ WgAt ty Wg w1 0 0)
    (Q := fun w1 p => stepG P true g w1 = .go p.1 w1 #[rd (stA Wg)] ∧ MRun P ty Post p.2 (.wg Wg js .thru) d r p.1 w1) (g, .leaf) (fun w1 hw => by
      obtain ⟨g', a, T, d⟩ := h w1 hw.1 hw.2
      exact ⟨(g', T), a, d⟩)
  exact ⟨.node fun i => (F i.1).2, .load2 (fun w1 => (F w1).1) hr (fun w1 a b => (hF w1 ⟨a, b⟩).1) (fun w1 a b => (hF w1 ⟨a, b⟩).2)⟩
theorem ME.acq (hr : g.status = .running) (h : ∀ w1, Rely r w w1 → WgLive ty Wg w1 → ∃ g', stepG P true g w1 = .go g' w1 #[mk (.acquire (stA Wg))] ∧ ∀ qs : List Rts, AllJ js qs w1 → ME P ty Post (.chs []) 0 (r.full qs) g' w1) : ME P ty Post (.wg Wg js .thru) 0 r g w := by
  obtain ⟨G1, hG⟩ := pick (α := World) (A := Goroutine) (p := fun w1 => Rely r w w1 ∧ WgLive ty Wg w1) (Q := fun w1 g' => stepG P true g w1 = .go g' w1 #[mk (.acquire (stA Wg))] ∧ ∀ qs : List Rts, AllJ js qs w1 → ME P ty Post (.chs []) 0 (r.full qs) g' w1) g (fun w1 hw => h w1 hw.1 hw.2)
  obtain ⟨F, hF⟩ := pick (α := World × Rts) (A := Tr Ix) (p := fun x => (Rely r w x.1 ∧ WgLive ty Wg x.1) ∧ ∃ qs, AllJ js qs x.1 ∧ x.2 = r.full qs)
    (Q := fun x T => MRun P ty Post T (.chs []) 0 x.2 (G1 x.1) x.1) .leaf (fun x ⟨a, qs, hq, e⟩ => by
      obtain ⟨T, hT⟩ := (hG x.1 a).2 qs hq
      exact ⟨T, by rw [e]; exact hT⟩)
  exact ⟨.node fun i => F (i.1, i.2.2.1), .acq G1 hr (fun w1 a b => (hG w1 ⟨a, b⟩).1) (fun w1 a b qs hq => hF (w1, r.full qs) ⟨⟨a, b⟩, qs, hq, rfl⟩)⟩
theorem ME.spawnG {c : Nat} {J : Jb} {r' rc : Rts} (hr : g.status = .running) (hJ : JSt J) (hsp : Split r r' rc) (hwr : r.wr (.cell ⟨c, 0, none⟩)) (hn1 : ¬ r'.rd (.cell ⟨c, 0, none⟩)) (hn2 : ¬ rc.rd (.cell ⟨c, 0, none⟩))
    (h : ∀ w1, Rely r w w1 → w1.heap[c]? = some (.chan 1 #[] false 0 0 false) ∧ ∃ g' child, stepG P true g w1 = .spawn g' child w1 #[] ∧ WkE P ty (fun _ => True) 0 c J .open_ rc child w1 ∧ ME P ty Post (.chs (cs ++ [⟨c, J, none⟩])) 0 r' g' w1) : ME P ty Post (.chs cs) 0 r g w := by
  obtain ⟨F, hF⟩ := pick (α := World) (A := Goroutine × Goroutine × Tr Ix) (p := fun w1 => Rely r w w1)
    (Q := fun w1 p => stepG P true g w1 = .spawn p.1 p.2.1 w1 #[] ∧ w1.heap[c]? = some (.chan 1 #[] false 0 0 false) ∧ (∃ T, Wk P ty (fun _ => True) 0 c J T .open_ rc p.2.1 w1) ∧ MRun P ty Post p.2.2 (.chs (cs ++ [⟨c, J, none⟩])) 0 r' p.1 w1) (g, g, .leaf) (fun w1 hw => by
      obtain ⟨a0, g', ch, a, b, T, d⟩ := h w1 hw
      exact ⟨(g', ch, T), a, a0, b, d⟩)
  exact ⟨.node fun i => (F i.1).2.2, .spawnG c J (fun w1 => (F w1).1) (fun w1 => (F w1).2.1) (fun _ => r') (fun _ => rc) hr hJ (fun w1 a => ⟨(hF w1 a).1, hsp, (hF w1 a).2.1, hwr, hn1, hn2, (hF w1 a).2.2.1⟩) (fun w1 a => (hF w1 a).2.2.2)⟩
theorem ME.recv {c : Nat} {J : Jb} {z : Value} (hr : g.status = .running) (h : ∀ w1, Rely r w w1 → ∃ es, stepG P true g w1 = .comm g #[rcase c z] true (.recv true) w1 es ∧ (∀ e ∈ es, EvOk r (fun _ => False) true w1.heap.size w1.heap.size e))
    (h2 : ∀ w1, Rely r w w1 → ∀ v, Heard J v → ME P ty Post (.chs (⟨c, J, some v⟩ :: cs)) 0 r (served g (.tuple #[v, .bool true])) w1) : ME P ty Post (.chs (⟨c, J, none⟩ :: cs)) 0 r g w := by
  obtain ⟨E1, hE⟩ := pick (α := World) (A := Array Event) (p := fun w1 => Rely r w w1) (Q := fun w1 es => stepG P true g w1 = .comm g #[rcase c z] true (.recv true) w1 es ∧ (∀ e ∈ es, EvOk r (fun _ => False) true w1.heap.size w1.heap.size e)) #[] h
  obtain ⟨F, hF⟩ := pick (α := World × Value) (A := Tr Ix) (p := fun x => Rely r w x.1 ∧ Heard J x.2) (Q := fun x T => MRun P ty Post T (.chs (⟨c, J, some x.2⟩ :: cs)) 0 r (served g (.tuple #[x.2, .bool true])) x.1) .leaf (fun x a => h2 x.1 a.1 x.2 a.2)
  exact ⟨.node fun i => F (i.1, i.2.1), .recv E1 hr hE (fun w1 a v hv => hF (w1, v) ⟨a, hv⟩)⟩
theorem ME.hear {c : Nat} {J : Jb} {z m : Value} (hr : g.status = .running) (h : ∀ w1, Rely r w w1 → ∃ es, stepG P true g w1 = .comm g #[rcase c z] true (.recv true) w1 es ∧ (∀ e ∈ es, EvOk r (fun _ => False) true w1.heap.size w1.heap.size e))
    (h2 : ∀ w1, Rely r w w1 → ∀ q, J m q w1 → cs = [] → ME P ty Post (.chs []) 0 (r.full [q]) (served g (.tuple #[z, .bool false])) w1) (h3 : ∀ w1, Rely r w w1 → ∀ q, J m q w1 → cs ≠ [] → ME P ty Post (.chs cs) 0 (r.join q) (served g (.tuple #[z, .bool false])) w1) : ME P ty Post (.chs (⟨c, J, some m⟩ :: cs)) 0 r g w := by
  obtain ⟨E1, hE⟩ := pick (α := World) (A := Array Event) (p := fun w1 => Rely r w w1) (Q := fun w1 es => stepG P true g w1 = .comm g #[rcase c z] true (.recv true) w1 es ∧ (∀ e ∈ es, EvOk r (fun _ => False) true w1.heap.size w1.heap.size e)) #[] h
  by_cases hc : cs = []
  · obtain ⟨F, hF⟩ := pick (α := World × Rts) (A := Tr Ix) (p := fun x => Rely r w x.1 ∧ J m x.2 x.1) (Q := fun x T => MRun P ty Post T (.chs []) 0 (r.full [x.2]) (served g (.tuple #[z, .bool false])) x.1) .leaf (fun x a => h2 x.1 a.1 x.2 a.2 hc)
    exact ⟨.node fun i => F (i.1, i.2.2.1), .hear E1 hr hE (fun w1 a q hq _ => hF (w1, q) ⟨a, hq⟩) (fun w1 a q hq n => absurd hc n)⟩
  · obtain ⟨F, hF⟩ := pick (α := World × Rts) (A := Tr Ix) (p := fun x => Rely r w x.1 ∧ J m x.2 x.1) (Q := fun x T => MRun P ty Post T (.chs cs) 0 (r.join x.2) (served g (.tuple #[z, .bool false])) x.1) .leaf (fun x a => h3 x.1 a.1 x.2 a.2 hc)
    exact ⟨.node fun i => F (i.1, i.2.2.1), .hear E1 hr hE (fun w1 a q hq n => absurd n hc) (fun w1 a q hq _ => hF (w1, q) ⟨a, hq⟩)⟩
/-- a walk of silent steps to a stop -/
theorem ME.goes {Stop : Goroutine → World → Prop} (hsr : ∀ g w, Stop g w → g.status = .running) (hst : ∀ g w, g.status = .running → σ.iv ty w → (∀ w1, RR r (σ.iv ty) w w1 → Stop g w1) → ME P ty Post σ d r g w) :
    ∀ (m : Nat) (g : Goroutine) (w : World), g.status = .running → σ.iv ty w → Goes P true (RR r (σ.iv ty)) DC0 Stop m g w → ME P ty Post σ d r g w
  | 0, g, w, hr, hi, h => hst g w hr hi h
  | m + 1, g, w, hr, hi, h => by
    rcases h with h | ⟨_, h⟩
    · exact hst g w hr hi h
    · refine ME.silent hr fun w1 h1 h2 => ?_
      have := h w1 ⟨h1, h2⟩
      cases hs : stepG P true g w1 with
      | go g' w' es =>
        rw [hs, goes_go] at this
        obtain ⟨⟨rfl, rfl⟩, hg⟩ := this
        have hrun := goes_next hsr h2 hg
        exact ⟨g', w', #[], rfl, guar_none _, by rw [new_self]; exact ME.goes hsr hst m g' w' hrun h2 hg⟩
      | _ => rw [hs] at this; exact this.elim
/-- .. to a record that is known -/
theorem ME.goes_to {gT : Goroutine} {m : Nat} (hT : ME P ty Post σ d r gT w) (hr : g.status = .running) (hi : σ.iv ty w) (h : Goes P true (RR r (σ.iv ty)) DC0 (fun g1 w1 => g1 = gT ∧ Rely r w w1) m g w) : ME P ty Post σ d r g w := by
  refine ME.goes (Stop := fun g1 w1 => g1 = gT ∧ Rely r w w1) (fun g1 w1 h => by rw [h.1]; exact hT.running) (fun g1 w1 _ hi1 h1 => ?_) m g w hr hi h
  obtain ⟨e, k⟩ := h1 w1 ⟨Rely.refl _ _, hi1⟩
  rw [e]; exact hT.rely k
end
end Cr
end
