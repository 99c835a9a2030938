/- PLAIN LAW of the model: a machine of a starter, its workers, and goroutines that only leave: what is held of it between two steps (no program text in sight). · PLAIN LAW of the model: somebody other than the starter takes a step: what is held of all others (no program text in sight). · PLAIN LAW of the model: one who only leaves takes a step; a worker takes a step of its own (no program text in sight). -/
import Derived.Test.YtienepcknafddaaDoorM13
import Derived.Conc.TokenTrace
set_option linter.unusedVariables false
set_option linter.unusedSimpArgs false
section
namespace Cr
open Go Go.Conc
open Go.ConcR (KK WgAt stA smA rd wr mk)
open Go.ConcN (WgLive ShN sumTo upd upd_same upd_ne)

/-! ### blocks that stand -/
theorem Turn.block {X : Loc → Prop} {w w1 : World} (h : Turn X w w1) {b : Nat} (hb : b < w.heap.size) (hx : ∀ i, ¬ X (.cell ⟨b, i, none⟩)) : w1.heap[b]? = w.heap[b]? := by
  rcases h.blk b hb with k | ⟨k, _⟩
  · exact k.none hx
  · exact absurd k (hx 0)
theorem Turn.chan {X : Loc → Prop} {w w1 : World} (h : Turn X w w1) {b : Nat} {o : Obj} (ho : w.heap[b]? = some o) (hc : IsChan (some o)) (hx : ¬ X (.cell ⟨b, 0, none⟩)) : w1.heap[b]? = w.heap[b]? := by
  rcases h.blk b (Array.getElem?_eq_some_iff.1 ho).1 with k | ⟨k, _⟩
  · rcases k with k | ⟨_, _, _, _, k, _⟩
    · exact k
    · rw [ho] at k
      simp only [Option.some.injEq] at k
      subst k; exact hc.elim
  · exact absurd k hx
theorem Turn.setCell {X : Loc → Prop} (w : World) (a : Addr) (v : Value) (hx : X (.cell ⟨a.block, a.off, none⟩)) : Turn X w (w.setCell a v) := by
  refine ⟨rfl, rfl, rfl, by simp [World.setCell], fun b hb => .inl ?_⟩
  unfold World.setCell
  simp only [Array.getElem?_modify]
  by_cases e : a.block = b
  · subst e
    rw [if_pos rfl]
    cases ho : w.heap[a.block]? with
    | none => exact .inl rfl
    | some o =>
      cases o with
      | cells c t fr =>
        by_cases hs : a.spot.isSome = true
        · simp only [Option.map_some, hs, if_true]; exact .inl rfl
        · simp only [Option.map_some, hs, if_false]
          refine .inr ⟨c, _, t, fr, rfl, rfl, by simp, fun i hi => ?_⟩
          rw [if_neg (by simp), Array.getElem?_setIfInBounds_ne]
          intro c; subst c; exact hi hx
      | _ => exact .inl rfl
  · rw [if_neg e]; exact .inl rfl
theorem Turn.setChan {X : Loc → Prop} (w : World) {c : Nat} {o : Obj} (ho : w.heap[c]? = some o) (hc : IsChan (some o)) (cap : Nat) (buf : Array Value) (cl : Bool) (s r : Nat) (tm : Bool) (hx : X (.cell ⟨c, 0, none⟩)) : Turn X w (w.setChan c cap buf cl s r tm) := by
  refine ⟨rfl, rfl, rfl, by simp [World.setChan], fun b hb => ?_⟩
  unfold World.setChan
  by_cases e : c = b
  · subst e
    simp only [Array.getElem?_setIfInBounds_self_of_lt hb]
    exact .inr ⟨hx, by rw [ho]; exact hc, trivial⟩
  · simp only [Array.getElem?_setIfInBounds_ne e]
    exact .inl (.inl rfl)
theorem setChan_get {w : World} {c : Nat} (hc : c < w.heap.size) (cap : Nat) (buf : Array Value) (cl : Bool) (s r : Nat) (tm : Bool) : (w.setChan c cap buf cl s r tm).heap[c]? = some (.chan cap buf cl s r tm) := by
  unfold World.setChan; simp [hc]
theorem setChan_ne {w : World} {c b : Nat} (hc : c ≠ b) (cap : Nat) (buf : Array Value) (cl : Bool) (s r : Nat) (tm : Bool) : (w.setChan c cap buf cl s r tm).heap[b]? = w.heap[b]? := by
  unfold World.setChan; simp [hc]
theorem Deaf_not {t u : Trace} {g : Nat} (hu : ∀ op ∈ u, op.g ≠ g) : Deaf (t ++ u) g = Deaf t g :=
  Deaf_quiet fun op hop d => by
    unfold deafStep
    have := hu op hop
    split <;> simp_all

/-! ### what is held -/
structure Cf where
  gs : Array Goroutine
  w : World
  t : Trace
  F : Nat → Tr Ix
  R : Nat → Rts
  E : Nat → Est
  ph : Nat → Option WPh
def isN : Option WPh → Prop
  | some .n2 | some .n3 | some .n4 => True
  | _ => False
def busy : Option WPh → Nat
  | some .calm | some .laid | some .deaf => 1
  | _ => 0
def WPh.d : WPh → Nat
  | .deaf | .n2 | .n3 | .n4 => 1
  | _ => 0
def RelAt (t : Trace) (p i Wg : Nat) : Prop := ∃ op, t[p]? = some op ∧ op.g = i ∧ op.act = .mark (.releaseMerge (stA Wg)) ∧ t.heard p
def CloseAt (t : Trace) (p i c : Nat) : Prop := ∃ op, t[p]? = some op ∧ op.g = i ∧ op.act = .close c ∧ t.heard p
theorem heard_app {t : Trace} {p : Nat} (u : Trace) (hp : p < t.size) (h : t.heard p) : (t ++ u).heard p := by
  obtain ⟨g, h1, h2⟩ := h
  exact ⟨g, by rw [g?_old hp]; exact h1, by rw [deaf_old (Nat.le_of_lt hp)]; exact h2⟩
theorem RelAt.app {t : Trace} {p i Wg : Nat} (u : Trace) (h : RelAt t p i Wg) : RelAt (t ++ u) p i Wg := by
  obtain ⟨op, h1, h2, h3, h4⟩ := h
  have hp := lt_size_of_getElem? h1
  exact ⟨op, by rw [getElem?_append_old hp]; exact h1, h2, h3, heard_app u hp h4⟩
theorem CloseAt.app {t : Trace} {p i c : Nat} (u : Trace) (h : CloseAt t p i c) : CloseAt (t ++ u) p i c := by
  obtain ⟨op, h1, h2, h3, h4⟩ := h
  have hp := lt_size_of_getElem? h1
  exact ⟨op, by rw [getElem?_append_old hp]; exact h1, h2, h3, heard_app u hp h4⟩
section
variable (P : Program) (ty : TypeId) (Post : Value → World → Prop)
/-- goroutine i only leaves -/
def Old (C : Cf) (i : Nat) : Prop := ∃ g, C.gs[i]? = some g ∧ C.E i = .done ∧ C.R i = .none ∧ C.ph i = none ∧ ∃ q, QuitsD P q (Deaf C.t i) g ∧ C.F i = Tr.nat q
def Above (C : Cf) (i : Nat) : Prop := C.E i = .done ∧ C.R i = .none ∧ C.ph i = none ∧ ∀ op ∈ C.t, op.g ≠ i
/-- goroutine i does job J of group Wg -/
def OneW (Wg : Nat) (J : Jb) (C : Cf) (i : Nat) : Prop := ∃ g, C.gs[i]? = some g ∧
  ((C.E i = .live ∧ C.ph i = some .calm ∧ Deaf C.t i = 0 ∧ Wk P ty (WgLive ty Wg) Wg 0 J (C.F i) .calm (C.R i) g C.w) ∨
   ∃ p, C.E i = .laid p ∧ RelAt C.t p i Wg ∧ J undef (C.R i) C.w ∧
    ((∃ x : WPh, C.ph i = some x ∧ ¬ x.live ∧ Deaf C.t i = x.d ∧ Wk P ty (WgLive ty Wg) Wg 0 J (C.F i) x .none g C.w) ∨ (C.ph i = none ∧ ∃ q, QuitsD P q (Deaf C.t i) g ∧ C.F i = Tr.nat q)))
/-- goroutine i does job ch.J over channel ch.c -/
def OneG (ch : Ch) (C : Cf) (i : Nat) : Prop := ∃ g, C.gs[i]? = some g ∧
  ((C.E i = .live ∧ C.ph i = some .open_ ∧ Deaf C.t i = 0 ∧ ch.got = none ∧ C.w.heap[ch.c]? = some (.chan 1 #[] false 0 0 false) ∧ Wk P ty (fun _ => True) 0 ch.c ch.J (C.F i) .open_ (C.R i) g C.w) ∨
   (∃ v, C.E i = .live ∧ C.ph i = some (.sent v) ∧ Deaf C.t i = 0 ∧ Wk P ty (fun _ => True) 0 ch.c ch.J (C.F i) (.sent v) (C.R i) g C.w ∧
      ((ch.got = none ∧ C.w.heap[ch.c]? = some (.chan 1 #[v] false 1 0 false)) ∨ (ch.got = some v ∧ C.w.heap[ch.c]? = some (.chan 1 #[] false 1 1 false)))) ∨
   ∃ p v, C.E i = .laid p ∧ C.ph i = none ∧ CloseAt C.t p i ch.c ∧ ch.J v (C.R i) C.w ∧ (∃ q, QuitsD P q (Deaf C.t i) g ∧ C.F i = Tr.nat q) ∧
      ((ch.got = none ∧ C.w.heap[ch.c]? = some (.chan 1 #[v] true 1 0 false)) ∨ (ch.got = some v ∧ C.w.heap[ch.c]? = some (.chan 1 #[] true 1 1 false))))
/-- the group's state -/
def Grp (Wg : Nat) (C : Cf) (st : WSt) : Prop :=
  let v : Nat := sumTo C.gs.size fun i => busy (C.ph i)
  match st with
  | .idle n | .seen n => (∀ i, ¬ isN (C.ph i)) ∧ WgAt ty Wg C.w (v * KK) 0 ∧ v ≤ n
  | .pend => (∀ i, ¬ isN (C.ph i)) ∧ WgAt ty Wg C.w ((v + 1) * KK) 0
  | .slept => (0 < v ∧ (∀ i, ¬ isN (C.ph i)) ∧ WgAt ty Wg C.w (v * KK + 1) 0) ∨ (v = 0 ∧ (∀ i, ¬ isN (C.ph i)) ∧ WgAt ty Wg C.w 0 1) ∨
      (v = 0 ∧ ∃ i, (∀ j, j ≠ i → ¬ isN (C.ph j)) ∧ (((C.ph i = some .n2 ∨ C.ph i = some .n3) ∧ WgAt ty Wg C.w 1 0) ∨ (C.ph i = some .n4 ∧ WgAt ty Wg C.w 0 0)))
  | .woken | .thru => v = 0 ∧ (∀ i, ¬ isN (C.ph i)) ∧ WgAt ty Wg C.w 0 0
def Act (C : Cf) : Sg → Prop
  | .chs cs => (∀ (k : Nat) (ch : Ch), cs[k]? = some ch → JSt ch.J ∧ OneG P ty ch C (C.gs.size - cs.length + k) ∧ ∀ i, ¬ (C.R i).rd (.cell ⟨ch.c, 0, none⟩)) ∧ ∀ (k k' : Nat) (ch ch' : Ch), cs[k]? = some ch → cs[k']? = some ch' → ch.c = ch'.c → k = k'
  | .wg Wg js st => (∀ (k : Nat) (J : Jb), js[k]? = some J → JSt J ∧ OneW P ty Wg J C (C.gs.size - js.length + k)) ∧ Grp ty Wg C st ∧ js.length ≤ 1000
def Sg.len : Sg → Nat
  | .chs cs => cs.length
  | .wg _ js _ => js.length
/-- how the starter's record stands to its walk -/
def MSt (σ : Sg) (r : Rts) (w : World) (g g0 : Goroutine) (k : Nat) : Prop :=
  (g0 = g ∧ k = 1) ∨ (∃ Wg js, σ = .wg Wg js .slept ∧ g.offers = none ∧ g0 = { g with status := .blocked } ∧ k = 0 ∧ ¬ WgAt ty Wg w 0 1) ∨
  ∃ ch cs z, σ = .chs (ch :: cs) ∧ (∀ w1, Rely r w w1 → ∃ es, stepG P true g w1 = .comm g #[rcase ch.c z] true (.recv true) w1 es) ∧ ((g0 = parked g #[rcase ch.c z] (.recv true) ∧ k = 0 ∧ ∃ cap s r tm, w.heap[ch.c]? = some (.chan cap #[] false s r tm)) ∨ (g0 = { parked g #[rcase ch.c z] (.recv true) with status := .running } ∧ k = 1))
structure Fm (C : Cf) (Tm : Tr Ix) (σ : Sg) (d k : Nat) (Sy : Loc → Prop) (g g0 : Goroutine) : Prop where
  at0 : C.gs[0]? = some g0
  run : MRun P ty Post Tm σ d (C.R 0) g C.w
  st : MSt P ty σ (C.R 0) C.w g g0 k
  e0 : C.E 0 = .live
  p0 : C.ph 0 = none
  d0 : Deaf C.t 0 = d
  safe : Safe Sy C.R C.E C.w.heap.size C.t
  sy : ∀ l, σ.sy l → Sy l
  len : 1 + σ.len ≤ C.gs.size
  old : ∀ i, 1 ≤ i → i < C.gs.size - σ.len → Old P C i
  act : Act P ty C σ
  above : ∀ i, C.gs.size ≤ i → Above C i
end
/-- goroutine i stands as it did -/
structure Stay (C C' : Cf) (i : Nat) : Prop where
  gs : C'.gs[i]? = C.gs[i]?
  rely : Rely (C.R i) C.w C'.w
  t : ∃ u, C'.t = C.t ++ u ∧ ∀ op ∈ u, op.g ≠ i
  R : C'.R i = C.R i
  E : C'.E i = C.E i
  F : C'.F i = C.F i
  ph : C'.ph i = C.ph i
section
variable {P : Program} {ty : TypeId} {Post : Value → World → Prop} {C C' : Cf} {i : Nat}
theorem Stay.deaf (h : Stay C C' i) : Deaf C'.t i = Deaf C.t i := by
  obtain ⟨u, e, hu⟩ := h.t
  rw [e]; exact Deaf_not hu
theorem Old.stay (h : Old P C i) (s : Stay C C' i) : Old P C' i := by
  obtain ⟨g, h1, h2, h3, h4, q, h5, h6⟩ := h
  exact ⟨g, s.gs.trans h1, s.E.trans h2, s.R.trans h3, s.ph.trans h4, q, by rw [s.deaf]; exact h5, s.F.trans h6⟩
theorem OneW.stay {Wg : Nat} {J : Jb} (hJ : JSt J) (h : OneW P ty Wg J C i) (s : Stay C C' i) : OneW P ty Wg J C' i := by
  obtain ⟨g, h1, h2⟩ := h
  refine ⟨g, s.gs.trans h1, ?_⟩
  have hr0 : Rely .none C.w C'.w := s.rely.mono fun l c => False.elim c
  rcases h2 with ⟨e, p, d, hw⟩ | ⟨p, e, hr, hj, h3⟩
  · exact .inl ⟨s.E.trans e, s.ph.trans p, s.deaf.trans d, by rw [s.F, s.R]; exact hw.rely s.rely⟩
  · obtain ⟨u, et, hu⟩ := s.t
    refine .inr ⟨p, s.E.trans e, by rw [et]; exact hr.app u, by rw [s.R]; exact hJ _ _ _ _ hj s.rely, ?_⟩
    rcases h3 with ⟨x, a, b, d, hw⟩ | ⟨a, q, hq, hf⟩
    · exact .inl ⟨x, s.ph.trans a, b, s.deaf.trans d, by rw [s.F]; exact hw.rely hr0⟩
    · exact .inr ⟨s.ph.trans a, q, by rw [s.deaf]; exact hq, s.F.trans hf⟩
theorem OneG.stay {ch : Ch} (hJ : JSt ch.J) (h : OneG P ty ch C i) (s : Stay C C' i) (hc : C'.w.heap[ch.c]? = C.w.heap[ch.c]?) : OneG P ty ch C' i := by
  obtain ⟨g, h1, h2⟩ := h
  refine ⟨g, s.gs.trans h1, ?_⟩
  rw [hc]
  rcases h2 with ⟨e, p, d, h3, h4, hw⟩ | ⟨v, e, p, d, hw, h3⟩ | ⟨p, v, e, a, hr, hj, ⟨q, hq, hf⟩, h3⟩
  · exact .inl ⟨s.E.trans e, s.ph.trans p, s.deaf.trans d, h3, h4, by rw [s.F, s.R]; exact hw.rely s.rely⟩
  · exact .inr (.inl ⟨v, s.E.trans e, s.ph.trans p, s.deaf.trans d, by rw [s.F, s.R]; exact hw.rely s.rely, h3⟩)
  · obtain ⟨u, et, hu⟩ := s.t
    exact .inr (.inr ⟨p, v, s.E.trans e, s.ph.trans a, by rw [et]; exact hr.app u, by rw [s.R]; exact hJ _ _ _ _ hj s.rely, ⟨q, by rw [s.deaf]; exact hq, s.F.trans hf⟩, h3⟩)
theorem Above.stay (h : Above C i) (s : Stay C C' i) : Above C' i := by
  obtain ⟨h1, h2, h3, h4⟩ := h
  obtain ⟨u, et, hu⟩ := s.t
  exact ⟨s.E.trans h1, s.R.trans h2, s.ph.trans h3, fun op hop => by rw [et] at hop; exact (Array.mem_append.1 hop).elim (h4 op) (hu op)⟩
/-- a worker, or one who only leaves, is never blocked -/
theorem OneW.up {Wg : Nat} {J : Jb} (h : OneW P ty Wg J C i) : ∃ g, C.gs[i]? = some g ∧ (g.status = .running ∨ g.status = .finished) := by
  obtain ⟨g, h1, h2⟩ := h
  refine ⟨g, h1, ?_⟩
  rcases h2 with ⟨_, _, _, hw⟩ | ⟨_, _, _, _, ⟨_, _, _, _, hw⟩ | ⟨_, q, hq, _⟩⟩
  · exact .inl hw.running
  · exact .inl hw.running
  · exact hq.status
theorem OneG.up {ch : Ch} (h : OneG P ty ch C i) : ∃ g, C.gs[i]? = some g ∧ (g.status = .running ∨ g.status = .finished) := by
  obtain ⟨g, h1, h2⟩ := h
  refine ⟨g, h1, ?_⟩
  rcases h2 with ⟨_, _, _, _, _, hw⟩ | ⟨_, _, _, _, hw, _⟩ | ⟨_, _, _, _, _, _, ⟨q, hq, _⟩, _⟩
  · exact .inl hw.running
  · exact .inl hw.running
  · exact hq.status
theorem Old.up (h : Old P C i) : ∃ g, C.gs[i]? = some g ∧ (g.status = .running ∨ g.status = .finished) := by
  obtain ⟨g, h1, _, _, _, q, hq, _⟩ := h
  exact ⟨g, h1, hq.status⟩
variable {Tm : Tr Ix} {σ : Sg} {d k : Nat} {Sy : Loc → Prop} {g g0 : Goroutine}
theorem Fm.up (h : Fm P ty Post C Tm σ d k Sy g g0) (hi : 1 ≤ i) (hs : i < C.gs.size) : ∃ x, C.gs[i]? = some x ∧ (x.status = .running ∨ x.status = .finished) := by
  by_cases c : i < C.gs.size - σ.len
  · exact (h.old i hi c).up
  · have hl := h.len
    have ha := h.act
    cases σ with
    | chs cs =>
      simp only [Sg.len] at c hl
      have hk : i - (C.gs.size - cs.length) < cs.length := by omega
      have := (ha.1 (i - (C.gs.size - cs.length)) _ (List.getElem?_eq_getElem hk)).2.1.up
      rw [show C.gs.size - cs.length + (i - (C.gs.size - cs.length)) = i by omega] at this
      exact this
    | wg Wg js st =>
      simp only [Sg.len] at c hl
      have hk : i - (C.gs.size - js.length) < js.length := by omega
      have := (ha.1 (i - (C.gs.size - js.length)) _ (List.getElem?_eq_getElem hk)).2.up
      rw [show C.gs.size - js.length + (i - (C.gs.size - js.length)) = i by omega] at this
      exact this
/-- whoever is not the starter is let be by another's step -/
theorem Fm.letBe (h : Fm P ty Post C Tm σ d k Sy g g0) (hi : 1 ≤ i) (a a' : Goroutine) (w' : World) : (C.gs[i]?).map (woken P a a' w') = C.gs[i]? := by
  by_cases hs : i < C.gs.size
  · obtain ⟨x, hx, hu⟩ := h.up hi hs
    rw [hx, Option.map_some]
    unfold Go.Conc.woken
    split
    · rw [again_running _ hu]
    · rfl
  · rw [Array.getElem?_eq_none (by omega)]; rfl
theorem Fm.awake (h : Fm P ty Post C Tm σ d k Sy g g0) : ∀ x ∈ C.gs, awake x := by
  intro x hx
  obtain ⟨i, hi, rfl⟩ := Array.mem_iff_getElem.1 hx
  rcases Nat.eq_zero_or_pos i with rfl | hpos
  · have h0 := h.at0
    rw [Array.getElem?_eq_getElem hi] at h0
    rw [Option.some.inj h0]
    rcases h.st with ⟨e, _⟩ | ⟨_, _, _, _, e, _⟩ | ⟨_, _, _, _, _, ⟨e, _⟩ | ⟨e, _⟩⟩
    · rw [e]; exact awake_of (.inl h.run.running)
    · rw [e]; exact awake_of (.inr (.inl rfl))
    · rw [e]; exact awake_of (.inr (.inl rfl))
    · rw [e]; exact awake_of (.inl rfl)
  · obtain ⟨y, hy, hu⟩ := h.up hpos hi
    rw [Array.getElem?_eq_getElem hi] at hy
    rw [Option.some.inj hy]
    exact awake_of (hu.imp id .inr)
end
end Cr
end

section
namespace Cr
open Go Go.Conc
open Go.ConcR (KK WgAt stA smA rd wr mk)
open Go.ConcN (WgLive ShN sumTo upd upd_same upd_ne sumTo_upd sumTo_congr)

def Cf.at (C : Cf) (d : Nat) : Cf := { C with w := C.w.at d }
section
variable {P : Program} {ty : TypeId} {Post : Value → World → Prop} {C C' : Cf} {i : Nat} {Tm : Tr Ix} {σ : Sg} {d k : Nat} {Sy : Loc → Prop} {g g0 : Goroutine}
theorem Stay.at (C : Cf) (d i : Nat) : Stay C (C.at d) i := ⟨rfl, Rely.at _ _ _, ⟨#[], by simp [Cf.at], by simp⟩, rfl, rfl, rfl, rfl⟩
theorem Act.at (h : Act P ty C σ) (n : Nat) : Act P ty (C.at n) σ := by
  cases σ with
  | chs cs => exact ⟨fun k ch hk => ⟨(h.1 k ch hk).1, (h.1 k ch hk).2.1.stay (h.1 k ch hk).1 (Stay.at C n _) rfl, (h.1 k ch hk).2.2⟩, h.2⟩
  | wg Wg js st => exact ⟨fun k J hk => ⟨(h.1 k J hk).1, (h.1 k J hk).2.stay (h.1 k J hk).1 (Stay.at C n _)⟩, h.2.1, h.2.2⟩
theorem MSt.at {r : Rts} {w : World} (h : MSt P ty σ r w g g0 k) (n : Nat) : MSt P ty σ r (w.at n) g g0 k := by
  rcases h with h | h | ⟨ch, cs, z, e, hs, h⟩
  · exact .inl h
  · exact .inr (.inl h)
  · exact .inr (.inr ⟨ch, cs, z, e, fun w1 h1 => hs w1 ((Rely.at _ _ n).trans h1), h⟩)
/-- the scheduler has drawn -/
theorem Fm.at (h : Fm P ty Post C Tm σ d k Sy g g0) (n : Nat) : Fm P ty Post (C.at n) Tm σ d k Sy g g0 :=
  { at0 := h.at0, run := h.run.rely (Rely.at _ _ _), st := h.st.at n, e0 := h.e0, p0 := h.p0, d0 := h.d0, safe := h.safe, sy := h.sy, len := h.len, old := fun i h1 h2 => (h.old i h1 h2).stay (Stay.at C n i), act := h.act.at n, above := fun i hi => (h.above i hi).stay (Stay.at C n i) }
theorem Grp.keep {Wg : Nat} {st : WSt} (h : Grp ty Wg C st) (hs : C'.gs.size = C.gs.size) (hph : ∀ j, C'.ph j = C.ph j ∨ (busy (C'.ph j) = busy (C.ph j) ∧ ¬ isN (C'.ph j) ∧ ¬ isN (C.ph j))) (hw : C'.w.heap[Wg]? = C.w.heap[Wg]?) : Grp ty Wg C' st := by
  have hb : sumTo C'.gs.size (fun i => busy (C'.ph i)) = sumTo C.gs.size fun i => busy (C.ph i) := by
    rw [hs]
    exact sumTo_congr fun j _ => by rcases hph j with c | c; rw [c]; exact c.1
  have hN : ∀ j, ¬ isN (C.ph j) → ¬ isN (C'.ph j) := fun j hj => by rcases hph j with c | c; rw [c]; exact hj; exact c.2.1
  have hNe : ∀ j x, C.ph j = some x → isN (some x) → C'.ph j = some x := fun j x hj hx => by
    rcases hph j with c | c
    · rw [c]; exact hj
    · exact absurd (by rw [hj]; exact hx) c.2.2
  have hW : ∀ {a b : Int}, WgAt ty Wg C.w a b → WgAt ty Wg C'.w a b := fun h => hw.trans h
  unfold Grp at h ⊢
  simp only [hb]
  cases st with
  | idle _ => exact ⟨fun j => hN j (h.1 j), hW h.2.1, h.2.2⟩
  | seen _ => exact ⟨fun j => hN j (h.1 j), hW h.2.1, h.2.2⟩
  | pend => exact ⟨fun j => hN j (h.1 j), hW h.2⟩
  | slept =>
    rcases h with ⟨h1, h2, h3⟩ | ⟨h1, h2, h3⟩ | ⟨h1, i, h2, h3⟩
    · exact .inl ⟨h1, fun j => hN j (h2 j), hW h3⟩
    · exact .inr (.inl ⟨h1, fun j => hN j (h2 j), hW h3⟩)
    · refine .inr (.inr ⟨h1, i, fun j hj => hN j (h2 j hj), ?_⟩)
      rcases h3 with ⟨h3 | h3, h4⟩ | ⟨h3, h4⟩
      · exact .inl ⟨.inl (hNe _ _ h3 trivial), hW h4⟩
      · exact .inl ⟨.inr (hNe _ _ h3 trivial), hW h4⟩
      · exact .inr ⟨hNe _ _ h3 trivial, hW h4⟩
  | woken => exact ⟨h.1, fun j => hN j (h.2.1 j), hW h.2.2⟩
  | thru => exact ⟨h.1, fun j => hN j (h.2.1 j), hW h.2.2⟩
/-- how the starter stands behind another's step -/
theorem MSt.other {r : Rts} {w w' : World} (h : MSt P ty σ r w g g0 k) (hg : g.status = .running) (hrl : Rely r w w') (x x' : Goroutine)
    (hM1 : ∀ Wg js, σ = .wg Wg js .slept → WgAt ty Wg w' 0 1 → ¬ WgAt ty Wg w 0 1 → mayWake P x = true ∧ x'.status ≠ .blocked ∧ x'.status ≠ .waiting)
    (hM2 : ∀ ch cs, σ = .chs (ch :: cs) → w'.heap[ch.c]? = w.heap[ch.c]? ∨ (mayWake P x = true ∧ x'.status ≠ .blocked ∧ x'.status ≠ .waiting ∧ ∃ cap buf s r tm, w'.heap[ch.c]? = some (.chan cap buf true s r tm))) :
    ∃ k', MSt P ty σ r w' g (woken P x x' w' g0) k' := by
  have hwk : ∀ o : Goroutine, mayWake P x = true ∧ x'.status ≠ .blocked ∧ x'.status ≠ .waiting → woken P x x' w' o = o.again w' := fun o ⟨h1, h2, h3⟩ => by
    have : (mayWake P x && x'.status != .blocked && x'.status != .waiting) = true := by simp [h1, h2, h3]
    unfold Go.Conc.woken
    rw [if_pos this]
  have hcase : ∀ o : Goroutine, woken P x x' w' o = o.again w' ∨ woken P x x' w' o = o := fun o => by
    unfold Go.Conc.woken
    split
    · exact .inl rfl
    · exact .inr rfl
  rcases h with ⟨e, hk⟩ | ⟨Wg, js, e, ho, e0, hk, hn⟩ | ⟨ch, cs, z, e, hs, ⟨e0, hk, cap, s, r, tm, hc⟩ | ⟨e0, hk⟩⟩
  · rw [e, woken_run hg]
    exact ⟨1, .inl ⟨rfl, rfl⟩⟩
  · subst e0
    have ha : ({ g with status := .blocked } : Goroutine).again w' = g := Go.ConcR.again_blocked hg ho w'
    by_cases c : WgAt ty Wg w' 0 1
    · rw [hwk _ (hM1 Wg js e c hn), ha]
      exact ⟨1, .inl ⟨rfl, rfl⟩⟩
    · rcases hcase { g with status := .blocked } with c' | c'
      · rw [c', ha]; exact ⟨1, .inl ⟨rfl, rfl⟩⟩
      · rw [c']; exact ⟨0, .inr (.inl ⟨Wg, js, e, ho, rfl, rfl, c⟩)⟩
  · subst e0
    rcases hM2 ch cs e with c | ⟨c1, c2, c3, cap', buf', s', r', tm', c4⟩
    · rw [hc] at c
      rw [woken_recv_open x x' c]
      exact ⟨0, .inr (.inr ⟨ch, cs, z, e, fun w1 h1 => hs w1 (hrl.trans h1), .inl ⟨rfl, rfl, cap, s, r, tm, c⟩⟩)⟩
    · rw [hwk _ ⟨c1, c2, c3⟩, again_recv_closed c4]
      exact ⟨1, .inr (.inr ⟨ch, cs, z, e, fun w1 h1 => hs w1 (hrl.trans h1), .inr ⟨rfl, rfl⟩⟩)⟩
  · subst e0
    rw [woken_run rfl]
    exact ⟨1, .inr (.inr ⟨ch, cs, z, e, fun w1 h1 => hs w1 (hrl.trans h1), .inr ⟨rfl, rfl⟩⟩)⟩
theorem MSt.same {r : Rts} {w w' : World} (h : MSt P ty σ r w g g0 k) (hrl : Rely r w w') (hM1 : ∀ Wg js, σ = .wg Wg js .slept → WgAt ty Wg w' 0 1 → WgAt ty Wg w 0 1) (hM2 : ∀ ch cs, σ = .chs (ch :: cs) → w'.heap[ch.c]? = w.heap[ch.c]? ∨ ∀ z, g0 ≠ parked g #[rcase ch.c z] (.recv true)) : MSt P ty σ r w' g g0 k := by
  rcases h with h | ⟨Wg, js, e, ho, e0, hk, hn⟩ | ⟨ch, cs, z, e, hs, ⟨e0, hk, cap, s, r, tm, hc⟩ | ⟨e0, hk⟩⟩
  · exact .inl h
  · exact .inr (.inl ⟨Wg, js, e, ho, e0, hk, fun c => hn (hM1 Wg js e c)⟩)
  · rcases hM2 ch cs e with c | c
    · exact .inr (.inr ⟨ch, cs, z, e, fun w1 h1 => hs w1 (hrl.trans h1), .inl ⟨e0, hk, cap, s, r, tm, c.trans hc⟩⟩)
    · exact absurd e0 (c z)
  · exact .inr (.inr ⟨ch, cs, z, e, fun w1 h1 => hs w1 (hrl.trans h1), .inr ⟨e0, hk⟩⟩)
/-- what is held behind a step of goroutine i's -/
theorem Fm.build (h : Fm P ty Post C Tm σ d k Sy g g0) (hi : 1 ≤ i) {x' : Goroutine} (his : i < C.gs.size) {Tm' : Tr Ix} {σ' : Sg} {k' : Nat} {g' g0' : Goroutine}
    (hsz : C'.gs.size = C.gs.size) (hself : C'.gs[i]? = some x') (hgs : ∀ j, 1 ≤ j → j ≠ i → C'.gs[j]? = C.gs[j]?)
    (hst : ∀ j, j ≠ i → Rely (C.R j) C.w C'.w ∧ C'.R j = C.R j ∧ C'.E j = C.E j ∧ C'.F j = C.F j ∧ C'.ph j = C.ph j)
    (ht : ∃ u, C'.t = C.t ++ u ∧ ∀ op ∈ u, op.g = i ∨ op.g = 0) (hd0 : Deaf C'.t 0 = d)
    (hsafe : Safe Sy C'.R C'.E C'.w.heap.size C'.t) (hm0 : C'.gs[0]? = some g0') (hrun : MRun P ty Post Tm' σ' d (C'.R 0) g' C'.w) (hmst : MSt P ty σ' (C'.R 0) C'.w g' g0' k') (hln : σ'.len = σ.len) (hsy : ∀ l, σ'.sy l → Sy l)
    (hold : i < C.gs.size - σ.len → Old P C' i)
    (hact : (∀ j, 1 ≤ j → j ≠ i → Stay C C' j) → Act P ty C' σ') : Fm P ty Post C' Tm' σ' d k' Sy g' g0' := by
  obtain ⟨u, et, hu⟩ := ht
  have hstay : ∀ j, 1 ≤ j → j ≠ i → Stay C C' j := fun j hj hne => by
    obtain ⟨a, b, c, e, f⟩ := hst j hne
    exact ⟨hgs j hj hne, a, ⟨u, et, fun op hop => by rcases hu op hop with c | c <;> omega⟩, b, c, e, f⟩
  obtain ⟨a, b, c, e, f⟩ := hst 0 (by omega)
  refine ⟨hm0, hrun, hmst, c.trans h.e0, f.trans h.p0, hd0, hsafe, hsy, by rw [hsz, hln]; exact h.len, fun j hj hl => ?_, hact hstay, fun j hj => ?_⟩
  · rw [hsz, hln] at hl
    by_cases ej : j = i
    · subst ej; exact hold hl
    · exact (h.old j hj hl).stay (hstay j hj ej)
  · rw [hsz] at hj
    exact (h.above j hj).stay (hstay j (by omega) (by omega))
/-- SOMEBODY ELSE THAN THE STARTER TAKES A STEP -/
theorem Fm.other (h : Fm P ty Post C Tm σ d k Sy g g0) (hi : 1 ≤ i) {x x' : Goroutine} (hx : C.gs[i]? = some x)
    (hgs : C'.gs = (C.gs.map (woken P x x' C'.w)).setIfInBounds i x')
    (hst : ∀ j, j ≠ i → Rely (C.R j) C.w C'.w ∧ C'.R j = C.R j ∧ C'.E j = C.E j ∧ C'.F j = C.F j ∧ C'.ph j = C.ph j)
    (ht : ∃ u, C'.t = C.t ++ u ∧ ∀ op ∈ u, op.g = i)
    (hsafe : Safe Sy C'.R C'.E C'.w.heap.size C'.t)
    (hM1 : ∀ Wg js, σ = .wg Wg js .slept → WgAt ty Wg C'.w 0 1 → ¬ WgAt ty Wg C.w 0 1 → mayWake P x = true ∧ x'.status ≠ .blocked ∧ x'.status ≠ .waiting)
    (hM2 : ∀ ch cs, σ = .chs (ch :: cs) → C'.w.heap[ch.c]? = C.w.heap[ch.c]? ∨ (mayWake P x = true ∧ x'.status ≠ .blocked ∧ x'.status ≠ .waiting ∧ ∃ cap buf s r tm, C'.w.heap[ch.c]? = some (.chan cap buf true s r tm)))
    (hold : i < C.gs.size - σ.len → Old P C' i)
    (hact : C'.gs.size = C.gs.size → C'.gs[i]? = some x' → (∀ j, 1 ≤ j → j ≠ i → Stay C C' j) → Act P ty C' σ) : ∃ k' g0', Fm P ty Post C' Tm σ d k' Sy g g0' := by
  have his : i < C.gs.size := (Array.getElem?_eq_some_iff.1 hx).1
  have hsz : C'.gs.size = C.gs.size := by rw [hgs]; simp
  have hself : C'.gs[i]? = some x' := by rw [hgs]; rw [Array.getElem?_setIfInBounds_self_of_lt (by simpa using his)]
  obtain ⟨u, et, hu⟩ := ht
  obtain ⟨a, b, c, e, f⟩ := hst 0 (by omega)
  obtain ⟨k', hm⟩ := h.st.other h.run.running a x x' hM1 hM2
  refine ⟨k', woken P x x' C'.w g0, h.build hi his hsz hself (fun j hj hne => ?_) hst ⟨u, et, fun op hop => .inl (hu op hop)⟩ ?_ hsafe ?_ ?_ (by rw [b]; exact hm) rfl h.sy hold (hact hsz hself)⟩
  · rw [hgs, Array.getElem?_setIfInBounds_ne (Ne.symm hne), Array.getElem?_map]
    exact h.letBe hj _ _ _
  · rw [et, Deaf_not fun op hop => by rw [hu op hop]; omega]; exact h.d0
  · rw [hgs, Array.getElem?_setIfInBounds_ne (by omega), Array.getElem?_map, h.at0]; rfl
  · rw [b]; exact h.run.rely a
/-- the machine goes on, in a smaller measure -/
def Next (P : Program) (ty : TypeId) (Post : Value → World → Prop) (C : Cf) (Tm : Tr Ix) (k : Nat) (sl : Option (Nat × Nat)) (i : Nat) : Prop :=
  ∃ (C' : Cf) (ops : Array MemOp) (Tm' : Tr Ix) (σ' : Sg) (d' k' : Nat) (Sy' : Loc → Prop) (g' g0' : Goroutine), runT P (crowd C.gs C.w sl) i = (.next (crowd C'.gs C'.w sl), ops) ∧ C'.t = C.t ++ ops ∧
    Fm P ty Post C' Tm' σ' d' k' Sy' g' g0' ∧ Ms.Lt ⟨Tm', C'.gs.size, C'.F, k'⟩ ⟨Tm, C.gs.size, C.F, k⟩
theorem bag_upd {F : Nat → Tr Ix} {n i : Nat} {T : Tr Ix} (hi : i < n) (h : Tr.Lt T (F i)) : BagLt n (upd F i T) F := ⟨i, hi, by rw [upd_same]; exact h, fun j hj => upd_ne F T hj⟩
theorem ops_g {i : Nat} {fn : FuncId} {pos : String} {es : Array Event} : ∀ op ∈ MemOp.ofEvents i fn pos es, op.g = i := fun op hop => by obtain ⟨e, _, rfl⟩ := mem_ofEvents hop; rfl
/-- the jobs of the group: all stand but one -/
theorem act_wg {Wg : Nat} {js : List Jb} {st : WSt} (h : Act P ty C (.wg Wg js st)) (hs : C'.gs.size = C.gs.size) (hstay : ∀ j, 1 ≤ j → j ≠ i → Stay C C' j) (hl : 1 + js.length ≤ C.gs.size)
    (hone : C.gs.size - js.length ≤ i → ∀ J, js[i - (C.gs.size - js.length)]? = some J → OneW P ty Wg J C' i) (hG : Grp ty Wg C' st) : Act P ty C' (.wg Wg js st) := by
  refine ⟨fun k J hk => ?_, hG, h.2.2⟩
  have hkl := (List.getElem?_eq_some_iff.1 hk).1
  refine ⟨(h.1 k J hk).1, ?_⟩
  rw [hs]
  by_cases e : C.gs.size - js.length + k = i
  · rw [e]
    exact hone (by omega) J (by rw [show i - (C.gs.size - js.length) = k by omega]; exact hk)
  · exact (h.1 k J hk).2.stay (h.1 k J hk).1 (hstay _ (by omega) e)
/-- the goroutines over channels: all stand but one -/
theorem act_chs {cs : List Ch} (h : Act P ty C (.chs cs)) (hs : C'.gs.size = C.gs.size) (hstay : ∀ j, 1 ≤ j → j ≠ i → Stay C C' j) (hl : 1 + cs.length ≤ C.gs.size)
    (hone : C.gs.size - cs.length ≤ i → ∀ ch, cs[i - (C.gs.size - cs.length)]? = some ch → OneG P ty ch C' i)
    (hch : ∀ (m : Nat) ch, cs[m]? = some ch → C.gs.size - cs.length + m ≠ i → C'.w.heap[ch.c]? = C.w.heap[ch.c]?)
    (hlock : ∀ (m : Nat) ch, cs[m]? = some ch → ∀ j, ¬ (C'.R j).rd (.cell ⟨ch.c, 0, none⟩)) : Act P ty C' (.chs cs) := by
  refine ⟨fun k ch hk => ?_, h.2⟩
  have hkl := (List.getElem?_eq_some_iff.1 hk).1
  refine ⟨(h.1 k ch hk).1, ?_, hlock k ch hk⟩
  rw [hs]
  by_cases e : C.gs.size - cs.length + k = i
  · rw [e]
    exact hone (by omega) ch (by rw [show i - (C.gs.size - cs.length) = k by omega]; exact hk)
  · exact (h.1 k ch hk).2.1.stay (h.1 k ch hk).1 (hstay _ (by omega) e) (hch k ch hk e)
end
end Cr
end

section
namespace Cr
open Go Go.Conc
open Go.ConcR (KK WgAt stA smA rd wr mk)
open Go.ConcN (WgLive ShN sumTo upd upd_same upd_ne sumTo_upd sumTo_congr)
section
variable {P : Program} {ty : TypeId} {Post : Value → World → Prop} {C C' : Cf} {i : Nat} {Tm : Tr Ix} {σ : Sg} {d k : Nat} {Sy : Loc → Prop} {g g0 x x' : Goroutine} {sl : Option (Nat × Nat)}
theorem Grp.live {Wg : Nat} {st : WSt} (h : Grp ty Wg C st) : WgLive ty Wg C.w := by
  unfold Grp at h
  cases st with
  | idle _ => exact ⟨_, _, h.2.1⟩
  | seen _ => exact ⟨_, _, h.2.1⟩
  | pend => exact ⟨_, _, h.2⟩
  | slept =>
    rcases h with ⟨_, _, h⟩ | ⟨_, _, h⟩ | ⟨_, i, _, ⟨_, h⟩ | ⟨_, h⟩⟩ <;> exact ⟨_, _, h⟩
  | woken => exact ⟨_, _, h.2.2⟩
  | thru => exact ⟨_, _, h.2.2⟩
theorem live_lt {Wg : Nat} {w : World} (h : WgLive ty Wg w) : Wg < w.heap.size := by
  obtain ⟨_, _, h⟩ := h
  exact (Array.getElem?_eq_some_iff.1 h).1
theorem OneW.ge {Wg : Nat} {J : Jb} (h : OneW P ty Wg J C i) : i < C.gs.size := by
  obtain ⟨g, h, _⟩ := h
  exact (Array.getElem?_eq_some_iff.1 h).1
/-- the group's block stands when somebody else's cells are turned -/
theorem Fm.wgStand (h : Fm P ty Post C Tm σ d k Sy g g0) {Wg : Nat} {js : List Jb} {st : WSt} (hσ : σ = .wg Wg js st) {w' : World} (ht : Turn (C.R i).wr C.w w') : w'.heap[Wg]? = C.w.heap[Wg]? := by
  subst hσ
  refine ht.block (live_lt h.act.2.1.live) fun j hw => ?_
  exact h.safe.nosy i _ (h.safe.sub i _ hw) (h.sy _ ⟨_, rfl, rfl⟩)
theorem OneG.chan {ch : Ch} (h : OneG P ty ch C i) : ∃ o, C.w.heap[ch.c]? = some o ∧ IsChan (some o) := by
  obtain ⟨g, _, ⟨_, _, _, _, h, _⟩ | ⟨v, _, _, _, _, ⟨_, h⟩ | ⟨_, h⟩⟩ | ⟨_, _, _, _, _, _, _, ⟨_, h⟩ | ⟨_, h⟩⟩⟩ := h <;> exact ⟨_, h, trivial⟩
theorem Fm.chStand (h : Fm P ty Post C Tm σ d k Sy g g0) {cs : List Ch} (hσ : σ = .chs cs) {w' : World} (ht : Turn (C.R i).wr C.w w') {m : Nat} {ch : Ch} (hm : cs[m]? = some ch) : w'.heap[ch.c]? = C.w.heap[ch.c]? := by
  subst hσ
  obtain ⟨h1, h2, h3⟩ := h.act.1 m ch hm
  obtain ⟨o, ho, hc⟩ := h2.chan
  exact ht.chan ho hc fun c => h3 i (h.safe.sub i _ c)
theorem Fm.others (h : Fm P ty Post C Tm σ d k Sy g g0) {w' : World} (ht : Turn (C.R i).wr C.w w') {j : Nat} (hj : j ≠ i) : Rely (C.R j) C.w w' :=
  ht.mono fun l hl c => hj (h.safe.excl i j l hl c).symm
theorem run_go (hi : 1 ≤ i) (hx : C.gs[i]? = some x) {w' : World} {es : Array Event} (hs : stepG P false x C.w = .go x' w' es) :
    runT P (crowd C.gs C.w sl) i = (.next (crowd ((C.gs.map (woken P x x' w')).setIfInBounds i x') w' sl), MemOp.ofEvents i x.frame.fn x.frame.place es) :=
  runT_crowd_go hx (by rw [show (i == 0) = false by simp; omega]; exact hs)
/-- ONE WHO ONLY LEAVES takes a step -/
theorem leaver_step (h : Fm P ty Post C Tm σ d k Sy g g0) (hi : 1 ≤ i) (hx : C.gs[i]? = some x) (hr : x.status = .running) {q : Nat} (hq : QuitsD P q (Deaf C.t i) x) (hF : C.F i = Tr.nat q) (hph : C.ph i = none) : Next P ty Post C Tm k sl i := by
  cases q with
  | zero => rw [hq.1] at hr; cases hr
  | succ n =>
    rcases hq with ⟨hf, _⟩ | ⟨_, x', es, hm, hst, hq⟩
    · rw [hf] at hr; cases hr
    have his := (Array.getElem?_eq_some_iff.1 hx).1
    have hrun := run_go (sl := sl) hi hx (hst C.w)
    have hdeaf : Deaf (C.t ++ MemOp.ofEvents i x.frame.fn x.frame.place es) i = deafBehind (Deaf C.t i) es := Deaf_own _ _ _ _ _
    have hsafe : Safe Sy C.R C.E C.w.heap.size (C.t ++ MemOp.ofEvents i x.frame.fn x.frame.place es) := h.safe.mute
      (fun op hop => by obtain ⟨e, he, rfl⟩ := mem_ofEvents hop; exact low_mute (hm e he) _)
      (fun op hop a c => by
        obtain ⟨e, he, rfl⟩ := mem_ofEvents hop
        have := hm e he
        obtain ⟨loc, wrt, sy⟩ := e
        cases loc <;> simp_all [Event.mute, MemAct.ofEvent])
      (fun op hop => by obtain ⟨e, he, rfl⟩ := mem_ofEvents hop; exact touch_mute (hm e he))
    obtain ⟨k', g0', hF'⟩ := h.other (C' := ⟨(C.gs.map (woken P x x' C.w)).setIfInBounds i x', C.w, C.t ++ MemOp.ofEvents i x.frame.fn x.frame.place es, upd C.F i (Tr.nat n), C.R, C.E, C.ph⟩) hi hx rfl
      (fun j hj => ⟨Rely.refl _ _, rfl, rfl, upd_ne _ _ hj, rfl⟩) ⟨_, rfl, ops_g⟩ hsafe (fun Wg js e c1 c2 => absurd c1 c2) (fun ch cs e => .inl rfl)
      (fun hl => by
        obtain ⟨y, h1, h2, h3, h4, q', h5, h6⟩ := h.old i hi hl
        exact ⟨x', by simp [his], h2, h3, h4, n, by simpa only [hdeaf] using hq, upd_same _ _ _⟩)
      (fun hs hself hstay => by
        have hact := h.act
        have hlen := h.len
        cases σ with
        | chs cs =>
          refine act_chs hact hs hstay hlen (fun hge ch hch => ?_) (fun m ch hm _ => rfl) (fun m ch hm j => (hact.1 m ch hm).2.2 j)
          have := (hact.1 _ ch hch).2.1
          rw [show C.gs.size - cs.length + (i - (C.gs.size - cs.length)) = i by omega] at this
          obtain ⟨y, h1, h2⟩ := this
          refine ⟨x', hself, ?_⟩
          rcases h2 with ⟨_, c, _⟩ | ⟨_, _, c, _⟩ | ⟨p, v, e, a, hcl, hj, _, h3⟩
          · rw [hph] at c; cases c
          · rw [hph] at c; cases c
          · exact .inr (.inr ⟨p, v, e, a, hcl.app _, hj, ⟨n, by simpa only [hdeaf] using hq, upd_same _ _ _⟩, h3⟩)
        | wg Wg js st =>
          refine act_wg hact hs hstay hlen (fun hge J hJ => ?_) (hact.2.1.keep hs (fun j => .inl rfl) rfl)
          have := (hact.1 _ J hJ).2
          rw [show C.gs.size - js.length + (i - (C.gs.size - js.length)) = i by omega] at this
          obtain ⟨y, h1, h2⟩ := this
          refine ⟨x', hself, ?_⟩
          rcases h2 with ⟨_, c, _⟩ | ⟨p, e, hrl, hj, ⟨z, c, _⟩ | _⟩
          · rw [hph] at c; cases c
          · rw [hph] at c; cases c
          · exact .inr ⟨p, e, hrl.app _, hj, .inr ⟨hph, n, by simpa only [hdeaf] using hq, upd_same _ _ _⟩⟩)
    refine ⟨_, _, Tm, σ, d, k', Sy, g, g0', hrun, rfl, hF', .inr (.inl ⟨rfl, by simp, ?_⟩)⟩
    simp only [Array.size_setIfInBounds, Array.size_map]
    exact bag_upd his (by rw [hF]; exact ⟨fun _ => Tr.nat n, ix C.w, rfl, rfl⟩)
theorem deaf_own_still {t : Trace} {fn : FuncId} {pos : String} {es : Array Event} (hes : ∀ e ∈ es, e.loc ≠ .mark .disable ∧ e.loc ≠ .mark .enable) : Deaf (t ++ MemOp.ofEvents i fn pos es) i = Deaf t i := by
  rw [Deaf_own]; exact deafBehind_still hes _
theorem ofEvent_rel {e : Event} (h : ∀ a, e.loc ≠ .mark (.release a)) (a : Addr) : MemAct.ofEvent e ≠ .mark (.release a) := by
  obtain ⟨loc, wrt, sy⟩ := e
  intro c
  cases loc with
  | obj r => cases wrt <;> cases sy <;> simp [MemAct.ofEvent] at c
  | mark m => simp only [MemAct.ofEvent, MemAct.mark.injEq] at c; subst c; exact h a rfl
  | _ => simp [MemAct.ofEvent] at c
/-- the trace behind a step that is let by -/
theorem guar_safe {S : Loc → Prop} {main : Bool} (hs : Safe Sy C.R C.E C.w.heap.size C.t) (hE : C.E i = .live) (hS : ∀ l, S l → Sy l) (hm : main = true → i = 0) {w' : World} {es : Array Event} (hg : Guar (C.R i) S main C.w w' es) (fn : FuncId) (pos : String) :
    Safe Sy (upd C.R i ((C.R i).new C.w.heap.size w'.heap.size)) C.E w'.heap.size (C.t ++ MemOp.ofEvents i fn pos es) := by
  refine hs.step hE ops_g hg.turn.size (fun op hop => ?_) (fun op hop a => ?_) (fun op hop b hb hmem => ?_) (fun j hj => upd_ne _ _ hj) (upd_same _ _ _)
  · obtain ⟨e, he, rfl⟩ := mem_ofEvents hop
    exact (hg.evs e he).2.2.2.2
  · obtain ⟨e, he, rfl⟩ := mem_ofEvents hop
    exact ofEvent_rel (hg.evs e he).2.2.2.1 a
  · obtain ⟨e, he, rfl⟩ := mem_ofEvents hop
    rcases (hg.evs e he).1 b hb hmem with ⟨c1, c2, c3⟩ | c | c
    · exact .inl ⟨hS _ c1, c2, fun x => hm (c3 x)⟩
    · exact .inr (.inl c)
    · exact .inr (.inr c)
theorem new_low {r : Rts} {n n' : Nat} {c o : Nat} (hc : c < n) (h : (r.new n n').rd (.cell ⟨c, o, none⟩)) : r.rd (.cell ⟨c, o, none⟩) := by
  rcases h with h | ⟨_, h, _⟩
  · exact h
  · exact absurd hc h
/-- A WORKER TAKES A STEP OF ITS OWN -/
theorem own_step (h : Fm P ty Post C Tm σ d k Sy g g0) (hi : 1 ≤ i) (hx : C.gs[i]? = some x) (hE : C.E i = .live) (hnew : C.gs.size - σ.len ≤ i) {w' : World} {es : Array Event} {T' : Tr Ix} (hs : stepG P false x C.w = .go x' w' es) (hg : Guar (C.R i) (fun _ => False) false C.w w' es) (hT : Tr.Lt T' (C.F i))
    (hW : ∀ Wg js st, σ = .wg Wg js st → ∀ J, js[i - (C.gs.size - js.length)]? = some J → OneW P ty Wg J C i → ∀ C' : Cf, C'.gs[i]? = some x' → C'.w = w' → C'.t = C.t ++ MemOp.ofEvents i x.frame.fn x.frame.place es → C'.F i = T' → C'.R i = (C.R i).new C.w.heap.size w'.heap.size → C'.E i = C.E i → C'.ph i = C.ph i → OneW P ty Wg J C' i)
    (hC : ∀ cs, σ = .chs cs → ∀ ch, cs[i - (C.gs.size - cs.length)]? = some ch → OneG P ty ch C i → ∀ C' : Cf, C'.gs[i]? = some x' → C'.w = w' → C'.t = C.t ++ MemOp.ofEvents i x.frame.fn x.frame.place es → C'.F i = T' → C'.R i = (C.R i).new C.w.heap.size w'.heap.size → C'.E i = C.E i → C'.ph i = C.ph i → OneG P ty ch C' i) : Next P ty Post C Tm k sl i := by
  have his := (Array.getElem?_eq_some_iff.1 hx).1
  have hrun := run_go (sl := sl) hi hx hs
  obtain ⟨k', g0', hF'⟩ := h.other (C' := ⟨(C.gs.map (woken P x x' w')).setIfInBounds i x', w', C.t ++ MemOp.ofEvents i x.frame.fn x.frame.place es, upd C.F i T', upd C.R i ((C.R i).new C.w.heap.size w'.heap.size), C.E, C.ph⟩) hi hx rfl
    (fun j hj => ⟨h.others hg.turn hj, upd_ne _ _ hj, rfl, upd_ne _ _ hj, rfl⟩) ⟨_, rfl, ops_g⟩ (guar_safe h.safe hE (fun _ c => c.elim) (fun c => by cases c) hg _ _)
    (fun Wg js e c1 c2 => absurd ((h.wgStand e hg.turn).symm.trans c1) c2) (fun ch cs e => .inl (h.chStand e hg.turn (m := 0) rfl))
    (fun hl => absurd hnew (by omega))
    (fun hsz hself hstay => by
      have hact := h.act
      have hlen := h.len
      cases σ with
      | chs cs =>
        refine act_chs hact hsz hstay hlen (fun hge ch hch => ?_) (fun m ch hm _ => h.chStand rfl hg.turn hm) (fun m ch hm j => ?_)
        · have := (hact.1 _ ch hch).2.1
          rw [show C.gs.size - cs.length + (i - (C.gs.size - cs.length)) = i by omega] at this
          exact hC cs rfl ch hch this _ hself rfl rfl (upd_same _ _ _) (upd_same _ _ _) rfl rfl
        · by_cases e : j = i
          · subst e
            simp only [upd_same]
            intro c
            obtain ⟨o, ho, _⟩ := (hact.1 m ch hm).2.1.chan
            exact (hact.1 m ch hm).2.2 j (new_low (Array.getElem?_eq_some_iff.1 ho).1 c)
          · simp only [upd_ne _ _ e]
            exact (hact.1 m ch hm).2.2 j
      | wg Wg js st =>
        refine act_wg hact hsz hstay hlen (fun hge J hJ => ?_) (hact.2.1.keep hsz (fun j => .inl rfl) (h.wgStand rfl hg.turn))
        have := (hact.1 _ J hJ).2
        rw [show C.gs.size - js.length + (i - (C.gs.size - js.length)) = i by omega] at this
        exact hW Wg js st rfl J hJ this _ hself rfl rfl (upd_same _ _ _) (upd_same _ _ _) rfl rfl)
  refine ⟨_, _, Tm, σ, d, k', Sy, g, g0', hrun, rfl, hF', .inr (.inl ⟨rfl, by simp, ?_⟩)⟩
  simp only [Array.size_setIfInBounds, Array.size_map]
  exact bag_upd his hT
end
end Cr
end
