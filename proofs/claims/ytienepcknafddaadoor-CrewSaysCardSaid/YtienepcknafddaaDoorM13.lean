/- PLAIN LAW of the model: who may touch what, and who knows of it: no data race; all is handed over (no program text in sight). · PLAIN LAW of the model: what is told of a goroutine in company: a worker, the starter (no program text in sight). -/
import Derived.Conc.Beside
import Derived.Test.YtienepcknafddaaDoorM12
import Derived.Test.YtienepcknafddaaDoorM7
import Derived.Conc.CrowdSpec
import Derived.Conc.CrowdComm
import Derived.Conc.Token
set_option linter.unusedVariables false
set_option linter.unusedSimpArgs false
section
namespace Cr
open Go Go.Conc

structure Rts where
  rd : Loc → Prop
  wr : Loc → Prop
def Rts.none : Rts := ⟨fun _ => False, fun _ => False⟩
/-- how it stands with a goroutine's rights: it holds them; it has laid them down at an operation of the trace; they have been taken over by goroutine 0 -/
inductive Est where
  | live
  | laid (p : Nat)
  | done
def Kn (t : Trace) (E : Nat → Est) (i x : Nat) : Prop := match E i with
  | .live => Knows t i x
  | .laid p => Before t x p
  | .done => Knows t 0 x
theorem Kn.app {t : Trace} {E : Nat → Est} {i x : Nat} (u : Trace) (h : Kn t E i x) : Kn (t ++ u) E i x := by
  unfold Kn at h ⊢
  cases hE : E i with
  | live => rw [hE] at h; exact Knows.app u h
  | laid p => rw [hE] at h; exact Before.app u h
  | done => rw [hE] at h; exact Knows.app u h
structure Safe (Sy : Loc → Prop) (R : Nat → Rts) (E : Nat → Est) (B : Nat) (t : Trace) : Prop where
  clean : ∀ said, ¬ Race said t
  seen : ∀ op ∈ t, op.act.low B
  all : ∀ x a, touchAt t x = some a → ∀ j, (R j).rd a.loc → ∃ i, (R i).rd a.loc ∧ Kn t E i x
  kr : ∀ i x a, touchAt t x = some a → (R i).rd a.loc → a.write = true → Kn t E i x
  excl : ∀ i j l, (R i).wr l → (R j).rd l → i = j
  sub : ∀ i l, (R i).wr l → (R i).rd l
  low : ∀ i l, (R i).rd l → l.low B
  mem : ∀ i l, (R i).rd l → l.isMemory = true
  nosy : ∀ i l, (R i).rd l → ¬ Sy l
  slow : ∀ l, Sy l → l.low B
  smem : ∀ l, Sy l → l.isMemory = true
  sync : ∀ x a, touchAt t x = some a → Sy a.loc → a.kind ≠ .plain ∧ (a.kind = .said → t.g? x = some 0)
  over : ∀ x g, t.g? x = some g → t.counts x → Kn t E g x
  norel : ∀ op ∈ t, ∀ a, op.act ≠ .mark (.release a)
theorem touch_low {x : MemAct} {a : Touch} {B : Nat} (h : x.touch? = some a) (hl : x.low B) : a.loc.low B := by
  cases x with
  | access e => simp only [MemAct.touch?, Option.some.injEq] at h; subst h; exact hl
  | mark m => cases m <;> simp [MemAct.touch?] at h <;> (subst h; exact hl)
  | _ => simp [MemAct.touch?] at h
/-- a place in a block that is new: it lies above B -/
def New (B B' : Nat) (l : Loc) : Prop := l.isMemory = true ∧ ¬ l.low B ∧ l.low B'
def Rts.new (r : Rts) (B B' : Nat) : Rts := ⟨fun l => r.rd l ∨ New B B' l, fun l => r.wr l ∨ New B B' l⟩
section
variable {Sy Sy' : Loc → Prop} {R R' : Nat → Rts} {E E' : Nat → Est} {B B' : Nat} {t u : Trace} {g : Nat}
theorem Safe.touchLow (h : Safe Sy R E B t) {x : Nat} {a : Touch} (ha : touchAt t x = some a) : a.loc.low B := by
  obtain ⟨y, hy, hya⟩ := touch_of ha
  exact touch_low hya (h.seen y (mem_of_getElem? hy))
theorem Safe.mono (h : Safe Sy R E B t) (hB : B ≤ B') : Safe Sy R E B' t :=
  { h with seen := fun op hop => MemAct.low_mono hB (h.seen op hop), low := fun i l hr => Loc.low_mono hB (h.low i l hr), slow := fun l hl => Loc.low_mono hB (h.slow l hl) }
theorem key_cases {x : Nat} {a : Touch} (ha : touchAt (t ++ u) x = some a) : (x < t.size ∧ touchAt t x = some a) ∨ ∃ op ∈ u, t.size ≤ x ∧ (t ++ u)[x]? = some op ∧ op.act.touch? = some a := by
  obtain ⟨y, hy, hya⟩ := touch_of ha
  rcases getElem?_append_cases hy with ⟨hi, hy'⟩ | ⟨hi, hyu⟩
  · exact .inl ⟨hi, by rw [touchAt_of hy']; exact hya⟩
  · exact .inr ⟨y, hyu, hi, hy, hya⟩
/-- A GOROUTINE DOES SOMETHING that its rights let by -/
theorem Safe.step (h : Safe Sy R E B t) (hg : E g = .live) (hu : ∀ op ∈ u, op.g = g) (hB : B ≤ B') (hl : ∀ op ∈ u, op.act.low B') (hnr : ∀ op ∈ u, ∀ a, op.act ≠ .mark (.release a))
    (ht : ∀ op ∈ u, ∀ b, op.act.touch? = some b → b.loc.isMemory = true → (Sy b.loc ∧ b.kind ≠ .plain ∧ (b.kind = .said → g = 0)) ∨ ((R g).rd b.loc ∧ (b.write = true → (R g).wr b.loc)) ∨ ¬ b.loc.low B)
    (hR : ∀ i, i ≠ g → R' i = R i) (hRg : R' g = (R g).new B B') : Safe Sy R' E B' (t ++ u) := by
  have own : ∀ {x : Nat} {op : MemOp}, op ∈ u → (t ++ u)[x]? = some op → Kn (t ++ u) E g x := fun hop hx => by
    have := knows_own hx
    rw [hu _ hop] at this
    unfold Kn; rw [hg]; exact this
  have rdc : ∀ i l, (R' i).rd l → (R i).rd l ∨ (i = g ∧ New B B' l) := fun i l hr => by
    by_cases e : i = g
    · subst e
      rw [hRg] at hr
      exact hr.imp id fun c => ⟨rfl, c⟩
    · rw [hR i e] at hr; exact .inl hr
  have wrc : ∀ i l, (R' i).wr l → (R i).wr l ∨ (i = g ∧ New B B' l) := fun i l hr => by
    by_cases e : i = g
    · subst e
      rw [hRg] at hr
      exact hr.imp id fun c => ⟨rfl, c⟩
    · rw [hR i e] at hr; exact .inl hr
  have rdi : ∀ i l, (R i).rd l → (R' i).rd l := fun i l hr => by
    by_cases e : i = g
    · subst e; rw [hRg]; exact .inl hr
    · rw [hR i e]; exact hr
  have rdg : ∀ op ∈ u, ∀ b, op.act.touch? = some b → (∃ j, (R' j).rd b.loc) → (R' g).rd b.loc ∧ (b.write = true → ∀ j, (R' j).rd b.loc → j = g) := by
    intro op hop b hb ⟨j, hj⟩
    have hm : b.loc.isMemory = true := by
      rcases rdc j _ hj with c | ⟨_, c⟩
      · exact h.mem j _ c
      · exact c.1
    have hlow' := touch_low hb (hl op hop)
    rcases ht op hop b hb hm with ⟨s1, _⟩ | ⟨s1, s2⟩ | s1
    · exfalso
      rcases rdc j _ hj with c | ⟨_, c⟩
      · exact h.nosy _ _ c s1
      · exact c.2.1 (h.slow _ s1)
    · refine ⟨rdi g _ s1, fun hw k hk => ?_⟩
      rcases rdc k _ hk with c | ⟨c, _⟩
      · exact (h.excl g k _ (s2 hw) c).symm
      · exact c
    · refine ⟨by rw [hRg]; exact .inr ⟨hm, s1, hlow'⟩, fun _ k hk => ?_⟩
      rcases rdc k _ hk with c | ⟨c, _⟩
      · exact absurd (h.low k _ c) s1
      · exact c
  refine ⟨fun said => noRace_append (h.clean said) hu fun x a ha op hop b hb hc => ?_, fun op hop => ?_, fun x a ha j hj => ?_, fun i x a ha hr haw => ?_, fun i j l hw hr => ?_, fun i l hw => ?_, fun i l hr => ?_, fun i l hr => ?_, fun i l hr => ?_, fun l hl' => Loc.low_mono hB (h.slow l hl'), h.smem, fun x a ha hs => ?_, fun x g' hx hc => ?_, fun op hop => ?_⟩
  · obtain ⟨c1, c2, c3, c4⟩ := hc
    have kl : ∀ {i x : Nat}, E i = .live → Kn t E i x → Knows t i x := fun e k => by unfold Kn at k; rw [e] at k; exact k
    rcases ht op hop b hb (by rw [← c1]; exact c2) with ⟨s1, s2, s3⟩ | ⟨s1, s2⟩ | s1
    · have hs := h.sync x a ha (by rw [c1]; exact s1)
      rcases c4 with c4 | c4 | ⟨_, c4, c5⟩
      · exact absurd c4 hs.1
      · exact absurd c4 s2
      · obtain ⟨y, hy, hya⟩ := touch_of ha
        have h0 := hs.2 c4
        have hg0 := s3 c5
        have := knows_own hy
        have hyg : y.g = 0 := by simpa [Trace.g?, hy] using h0
        rw [hyg] at this
        rw [hg0]; exact this
    · by_cases hbw : b.write = true
      · obtain ⟨i, hi, hk⟩ := h.all x a ha g (by rw [c1]; exact s1)
        have e : g = i := h.excl g i b.loc (s2 hbw) (by rw [← c1]; exact hi)
        subst e
        exact kl hg hk
      · exact kl hg (h.kr g x a ha (by rw [c1]; exact s1) (c3.resolve_right hbw))
    · exact absurd (by rw [← c1]; exact h.touchLow ha) s1
  · rcases Array.mem_append.1 hop with c | c
    · exact MemAct.low_mono hB (h.seen op c)
    · exact hl op c
  · rcases key_cases ha with ⟨_, ha'⟩ | ⟨op, hop, _, hi, hoa⟩
    · rcases rdc j _ hj with c | ⟨_, c⟩
      · obtain ⟨i, h1, h2⟩ := h.all x a ha' j c
        exact ⟨i, rdi i _ h1, h2.app u⟩
      · exact absurd (h.touchLow ha') c.2.1
    · exact ⟨g, (rdg op hop a hoa ⟨j, hj⟩).1, own hop hi⟩
  · rcases key_cases ha with ⟨_, ha'⟩ | ⟨op, hop, _, hi, hoa⟩
    · rcases rdc i _ hr with c | ⟨_, c⟩
      · exact (h.kr i x a ha' c haw).app u
      · exact absurd (h.touchLow ha') c.2.1
    · rw [(rdg op hop a hoa ⟨i, hr⟩).2 haw i hr]
      exact own hop hi
  · rcases wrc i l hw with a1 | ⟨a1, a2⟩
    · rcases rdc j l hr with b1 | ⟨_, b2⟩
      · exact h.excl i j l a1 b1
      · exact absurd (h.low i l (h.sub i l a1)) b2.2.1
    · rcases rdc j l hr with b1 | ⟨b1, _⟩
      · exact absurd (h.low j l b1) a2.2.1
      · rw [a1, b1]
  · rcases wrc i l hw with c | ⟨c, c2⟩
    · exact rdi i l (h.sub i l c)
    · subst c; rw [hRg]; exact .inr c2
  · rcases rdc i l hr with c | ⟨_, c⟩
    · exact Loc.low_mono hB (h.low i l c)
    · exact c.2.2
  · rcases rdc i l hr with c | ⟨_, c⟩
    · exact h.mem i l c
    · exact c.1
  · rcases rdc i l hr with c | ⟨_, c⟩
    · exact h.nosy i l c
    · exact fun hs => c.2.1 (h.slow l hs)
  · rcases key_cases ha with ⟨hi, ha'⟩ | ⟨op, hop, _, hi, hoa⟩
    · have := h.sync x a ha' hs
      rw [g?_old hi]
      exact this
    · rcases ht op hop a hoa (h.smem _ hs) with ⟨_, s2, s3⟩ | ⟨s1, _⟩ | s2
      · exact ⟨s2, fun hk => by rw [← s3 hk]; simp [Trace.g?, hi, hu op hop]⟩
      · exact absurd hs (h.nosy _ _ s1)
      · exact absurd (h.slow _ hs) s2
  · by_cases hi : x < t.size
    · rw [g?_old hi] at hx
      exact (h.over x g' hx ((counts_old hi).1 hc)).app u
    · obtain ⟨op, ho, hog⟩ := Option.map_eq_some_iff.1 hx
      rcases getElem?_append_cases ho with ⟨c, _⟩ | ⟨_, c⟩
      · exact absurd c hi
      · have := own c ho
        rw [← hog, hu op c]; exact this
  · rcases Array.mem_append.1 hop with c | c
    · exact h.norel op c
    · exact hnr op c
/-- operations that touch nothing -/
theorem Safe.mute (h : Safe Sy R E B t) (hl : ∀ op ∈ u, op.act.low B) (hnr : ∀ op ∈ u, ∀ a, op.act ≠ .mark (.release a)) (ht : ∀ op ∈ u, op.act.touch? = none) : Safe Sy R E B (t ++ u) := by
  have kc : ∀ {x : Nat} {a : Touch}, touchAt (t ++ u) x = some a → x < t.size ∧ touchAt t x = some a := fun ha => by
    rcases key_cases ha with c | ⟨op, hop, _, _, c⟩
    · exact c
    · rw [ht op hop] at c; cases c
  refine ⟨fun said => ?_, fun op hop => ?_, fun x a ha j hj => ?_, fun i x a ha hr haw => (h.kr i x a (kc ha).2 hr haw).app u, h.excl, h.sub, h.low, h.mem, h.nosy, h.slow, h.smem, fun x a ha hs => ?_, fun x g' hx hc => ?_, fun op hop => ?_⟩
  · rintro ⟨i, j, hij, ⟨a, b, ha, hb, hc⟩, n1, n2⟩
    have ka := kc ha
    have kb := kc hb
    exact h.clean said ⟨i, j, hij, ⟨a, b, ka.2, kb.2, hc⟩, fun e => n1 (hb_app u e), fun e => n2 (hb_app u e)⟩
  · exact (Array.mem_append.1 hop).elim (h.seen op) (hl op)
  · obtain ⟨i, h1, h2⟩ := h.all x a (kc ha).2 j hj
    exact ⟨i, h1, h2.app u⟩
  · have := h.sync x a (kc ha).2 hs
    rw [g?_old (kc ha).1]; exact this
  · have hcc := hc
    obtain ⟨a, ha, _⟩ := hc
    have hi := (kc ha).1
    rw [g?_old hi] at hx
    exact (h.over x g' hx ((counts_old hi).1 hcc)).app u
  · exact (Array.mem_append.1 hop).elim (h.norel op) (hnr op)
/-- atomic operations, of a goroutine that is deaf, on what synchronises -/
theorem Safe.deaf (h : Safe Sy R E B t) (hu : ∀ op ∈ u, op.g = g) (hl : ∀ op ∈ u, op.act.low B) (hnr : ∀ op ∈ u, ∀ a, op.act ≠ .mark (.release a)) (ht : ∀ op ∈ u, ∀ b, op.act.touch? = some b → Sy b.loc ∧ b.kind = .atomic)
    (hd : ∀ x, t.size ≤ x → touchAt (t ++ u) x ≠ none → ¬ (t ++ u).heard x) : Safe Sy R E B (t ++ u) := by
  refine ⟨fun said => noRace_append (h.clean said) hu fun x a ha op hop b hb hc => ?_, fun op hop => ?_, fun x a ha j hj => ?_, fun i x a ha hr haw => ?_, h.excl, h.sub, h.low, h.mem, h.nosy, h.slow, h.smem, fun x a ha hs => ?_, fun x g' hx hc => ?_, fun op hop => ?_⟩
  · exfalso
    obtain ⟨c1, c2, c3, c4⟩ := hc
    obtain ⟨s1, s2⟩ := ht op hop b hb
    have hs := h.sync x a ha (by rw [c1]; exact s1)
    rcases c4 with c4 | c4 | ⟨_, _, c5⟩
    · exact hs.1 c4
    · rw [s2] at c4; cases c4
    · rw [s2] at c5; cases c5
  · exact (Array.mem_append.1 hop).elim (h.seen op) (hl op)
  · rcases key_cases ha with ⟨_, ha'⟩ | ⟨op, hop, _, _, hoa⟩
    · obtain ⟨i, h1, h2⟩ := h.all x a ha' j hj
      exact ⟨i, h1, h2.app u⟩
    · exact absurd (ht op hop a hoa).1 (h.nosy _ _ hj)
  · rcases key_cases ha with ⟨_, ha'⟩ | ⟨op, hop, _, _, hoa⟩
    · exact (h.kr i x a ha' hr haw).app u
    · exact absurd (ht op hop a hoa).1 (h.nosy _ _ hr)
  · rcases key_cases ha with ⟨hi, ha'⟩ | ⟨op, hop, _, _, hoa⟩
    · have := h.sync x a ha' hs
      rw [g?_old hi]; exact this
    · have := (ht op hop a hoa).2
      rw [this]; exact ⟨by simp, by simp⟩
  · by_cases hi : x < t.size
    · rw [g?_old hi] at hx
      exact (h.over x g' hx ((counts_old hi).1 hc)).app u
    · exfalso
      obtain ⟨a, ha, hm, hk⟩ := hc
      rcases key_cases ha with ⟨c, _⟩ | ⟨op, hop, _, _, hoa⟩
      · exact hi c
      · rcases hk with hk | hk
        · exact hk (ht op hop a hoa).2
        · exact hd x (by omega) (by show ¬ (touchAt (t ++ u) x = none); unfold touchAt; rw [ha]; simp) hk
  · exact (Array.mem_append.1 hop).elim (h.norel op) (hnr op)
/-- RIGHTS PASS to those who know what their holders know -/
theorem Safe.move (h : Safe Sy R E B t) (hk : ∀ i l, (R' i).rd l → ∃ j, (R j).rd l ∧ ∀ x, Kn t E j x → Kn t E' i x) (ha : ∀ j i l, (R j).rd l → (R' i).rd l → ∃ i', (R' i').rd l ∧ ∀ x, Kn t E j x → Kn t E' i' x)
    (hx : ∀ i j l, (R' i).wr l → (R' j).rd l → i = j) (hs : ∀ i l, (R' i).wr l → (R' i).rd l) (ho : ∀ x g, t.g? x = some g → Kn t E g x → Kn t E' g x) : Safe Sy R' E' B t where
  clean := h.clean
  seen := h.seen
  all x a hta j hj := by
    obtain ⟨j0, h1, _⟩ := hk j a.loc hj
    obtain ⟨i, h3, h4⟩ := h.all x a hta j0 h1
    obtain ⟨i', h5, h6⟩ := ha i j a.loc h3 hj
    exact ⟨i', h5, h6 x h4⟩
  kr i x a hta hr haw := by
    obtain ⟨j, h1, h2⟩ := hk i a.loc hr
    exact h2 x (h.kr j x a hta h1 haw)
  excl := hx
  sub := hs
  low i l hr := let ⟨j, h1, _⟩ := hk i l hr; h.low j l h1
  mem i l hr := let ⟨j, h1, _⟩ := hk i l hr; h.mem j l h1
  nosy i l hr := let ⟨j, h1, _⟩ := hk i l hr; h.nosy j l h1
  slow := h.slow
  smem := h.smem
  sync := h.sync
  over x g hg hc := ho x g hg (h.over x g hg hc)
  norel := h.norel
/-- other places are set aside for what synchronises -/
theorem Safe.resync (h : Safe Sy R E B t) (hS : ∀ l, Sy' l → l.isMemory = true ∧ l.low B ∧ (∀ i, ¬ (R i).rd l) ∧ (Sy l ∨ ∀ x a, touchAt t x = some a → a.loc ≠ l)) : Safe Sy' R E B t :=
  { h with
    nosy := fun i l hr hs => (hS l hs).2.2.1 i hr
    slow := fun l hs => (hS l hs).2.1
    smem := fun l hs => (hS l hs).1
    sync := fun x a ha hs => by
      rcases (hS _ hs).2.2.2 with c | c
      · exact h.sync x a ha c
      · exact absurd rfl (c x a ha) }
/-- what g knows lies before what it did last -/
theorem knows_last {p : Nat} {z : MemOp} (hz : t[p]? = some z) (hzg : z.g = g) (hl : ∀ q, q < t.size → q ≤ p) {x : Nat} (h : Knows t g x) : Before t x p := by
  obtain ⟨q, y, h1, h2, h3⟩ := h
  have hq := hl q (lt_size_of_getElem? h1)
  rcases Nat.eq_or_lt_of_le hq with e | e
  · subst e; exact h3
  · exact .inr (h3.hb (hb_po e h1 hz (h2.trans hzg.symm)))
/-- the child knows what the one who started it knew -/
theorem knows_spawn {p n : Nat} {x y : MemOp} (hx : x.g = p ∧ x.act = .go n) (hy : y.g = n ∧ y.act = .start) (hp : Deaf t p = 0) (hn : Deaf t n = 0) {i : Nat} (h : Knows t p i) : Knows (t ++ #[x, y]) n i := by
  have e0 : (t ++ #[x, y])[t.size]? = some x := by rw [Array.getElem?_append_right (Nat.le_refl _)]; simp
  have e1 : (t ++ #[x, y])[t.size + 1]? = some y := by rw [Array.getElem?_append_right (Nat.le_succ _)]; simp
  have hb := h.hb_new (u := #[x, y]) (Nat.le_refl _) e0 hx.1
  have d0 : (t ++ #[x, y]).deaf p t.size = 0 := by rw [deaf_old (Nat.le_refl _)]; exact hp
  have d1 : (t ++ #[x, y]).deaf n (t.size + 1) = 0 := by
    rw [deaf_succ e0, deaf_old (Nat.le_refl _)]
    show deafStep n (Deaf t n) x = 0
    rw [hn]
    unfold deafStep
    rw [hx.2]
  refine ⟨t.size + 1, y, e1, hy.1, .inr (Relation.TransGen.tail hb ?_)⟩
  refine .inr ⟨.spawn (by rw [act?_of e0, hx.2]) (by rw [act?_of e1, hy.2]) (by simp [Trace.g?, e1, hy.1]), ⟨p, by simp [Trace.g?, e0, hx.1], d0⟩, ⟨n, by simp [Trace.g?, e1, hy.1], d1⟩⟩
end
end Cr
end

section
namespace Cr
open Go Go.Conc
open Go.ConcR (KK WgAt stA smA rd wr mk)
open Go.ConcN (WgLive ShN)

/-! ### what others may turn -/
def IsChan : Option Obj → Prop
  | some (.chan ..) => True
  | _ => False
def TurnB (X : Loc → Prop) (b : Nat) (o o1 : Option Obj) : Prop := Co.SameBut (fun i => X (.cell ⟨b, i, none⟩)) o o1 ∨ (X (.cell ⟨b, 0, none⟩) ∧ IsChan o ∧ IsChan o1)
/-- the places in X alone have been turned (and there may be new blocks) -/
structure Turn (X : Loc → Prop) (w w1 : World) : Prop where
  tape : w1.tape = w.tape
  os : w1.os = w.os
  output : w1.output = w.output
  size : w.heap.size ≤ w1.heap.size
  blk : ∀ b, b < w.heap.size → TurnB X b w.heap[b]? w1.heap[b]?
theorem TurnB.mono {X Y : Loc → Prop} (e : ∀ l, X l → Y l) {b : Nat} {o o1 : Option Obj} (h : TurnB X b o o1) : TurnB Y b o o1 :=
  h.imp (fun h => h.mono fun i => e _) fun ⟨h1, h2⟩ => ⟨e _ h1, h2⟩
theorem TurnB.trans {X : Loc → Prop} {b : Nat} {o o1 o2 : Option Obj} (h : TurnB X b o o1) (k : TurnB X b o1 o2) : TurnB X b o o2 := by
  rcases h with h | ⟨h1, h2, h3⟩
  · rcases k with k | ⟨k1, k2, k3⟩
    · exact .inl (h.trans k)
    · rcases h with h | ⟨_, _, _, _, _, h, _⟩
      · subst h; exact .inr ⟨k1, k2, k3⟩
      · subst h; exact k2.elim
  · rcases k with k | ⟨k1, k2, k3⟩
    · rcases k with k | ⟨_, _, _, _, k, _⟩
      · subst k; exact .inr ⟨h1, h2, h3⟩
      · subst k; exact h3.elim
    · exact .inr ⟨h1, h2, k3⟩
theorem Turn.refl (X : Loc → Prop) (w : World) : Turn X w w := ⟨rfl, rfl, rfl, Nat.le_refl _, fun _ _ => .inl (.inl rfl)⟩
theorem Turn.mono {X Y : Loc → Prop} (e : ∀ l, X l → Y l) {w w1 : World} (h : Turn X w w1) : Turn Y w w1 := ⟨h.tape, h.os, h.output, h.size, fun b hb => (h.blk b hb).mono e⟩
theorem Turn.trans {X : Loc → Prop} {w w1 w2 : World} (h : Turn X w w1) (k : Turn X w1 w2) : Turn X w w2 :=
  ⟨k.tape.trans h.tape, k.os.trans h.os, k.output.trans h.output, Nat.le_trans h.size k.size, fun b hb => (h.blk b hb).trans (k.blk b (Nat.lt_of_lt_of_le hb h.size))⟩
theorem Turn.at (X : Loc → Prop) (w : World) (d : Nat) : Turn X w (w.at d) := ⟨rfl, rfl, rfl, Nat.le_refl _, fun _ _ => .inl (.inl rfl)⟩
/-- what whoever has rights r suffers -/
def Rely (r : Rts) (w w1 : World) : Prop := Turn (fun l => ¬ r.rd l) w w1
theorem Rely.refl (r : Rts) (w : World) : Rely r w w := Turn.refl _ _
theorem Rely.trans {r : Rts} {w w1 w2 : World} (h : Rely r w w1) (k : Rely r w1 w2) : Rely r w w2 := Turn.trans h k
theorem Rely.mono {r r' : Rts} (e : ∀ l, r'.rd l → r.rd l) {w w1 : World} (h : Rely r w w1) : Rely r' w w1 := Turn.mono (fun l hl c => hl (e l c)) h
theorem Rely.at (r : Rts) (w : World) (d : Nat) : Rely r w (w.at d) := Turn.at _ _ _
/-- what is asked of what a step lists -/
def EvOk (r : Rts) (S : Loc → Prop) (main : Bool) (n n' : Nat) (e : Event) : Prop :=
  (∀ b, (MemAct.ofEvent e).touch? = some b → b.loc.isMemory = true → (S b.loc ∧ b.kind ≠ .plain ∧ (b.kind = .said → main = true)) ∨ (r.rd b.loc ∧ (b.write = true → r.wr b.loc)) ∨ ¬ b.loc.low n) ∧
  e.loc ≠ .mark .disable ∧ e.loc ≠ .mark .enable ∧ (∀ a, e.loc ≠ .mark (.release a)) ∧ (MemAct.ofEvent e).low n'
structure Guar (r : Rts) (S : Loc → Prop) (main : Bool) (w w' : World) (es : Array Event) : Prop where
  turn : Turn r.wr w w'
  evs : ∀ e ∈ es, EvOk r S main w.heap.size w'.heap.size e
abbrev Jb := Value → Rts → World → Prop
/-- what is told of a piece of work stays true while its rights are kept -/
def JSt (J : Jb) : Prop := ∀ v r w w1, J v r w → Rely r w w1 → J v r w1
abbrev Ix := World × Value × Rts × Nat × Nat
def ix (w : World) : Ix := (w, undef, .none, 0, 0)

/-! ### a worker -/
inductive WPh where
  | calm | laid | deaf | n2 | n3 | n4
  | open_
  | sent (v : Value)
def WPh.live : WPh → Prop
  | .calm | .open_ | .sent _ => True
  | _ => False
/-- A WORKER ON ITS WAY. (Iv: what stands of the world whatever the others do; Wg: its group's block; c: its channel; J: what it hands over.) -/
inductive Wk (P : Program) (ty : TypeId) (Iv : World → Prop) (Wg c : Nat) (J : Jb) : Tr Ix → WPh → Rts → Goroutine → World → Prop
  | silent {f : Ix → Tr Ix} {ph : WPh} {r : Rts} {g : Goroutine} {w : World} (nx : World → Goroutine) (nw : World → World) (ne : World → Array Event) : ph.live → g.status = .running →
      (∀ w1, Rely r w w1 → Iv w1 → stepG P false g w1 = .go (nx w1) (nw w1) (ne w1) ∧ Guar r (fun _ => False) false w1 (nw w1) (ne w1) ∧ (nx w1).status = .running) →
      (∀ w1, Rely r w w1 → Iv w1 → Wk P ty Iv Wg c J (f (ix w1)) ph (r.new w1.heap.size (nw w1).heap.size) (nx w1) (nw w1)) → Wk P ty Iv Wg c J (.node f) ph r g w
  | idle {f : Ix → Tr Ix} {ph : WPh} {g : Goroutine} {w : World} (nx : World → Goroutine) : ¬ ph.live → g.status = .running →
      (∀ w1, Rely .none w w1 → Iv w1 → stepG P false g w1 = .go (nx w1) w1 #[] ∧ (nx w1).status = .running) →
      (∀ w1, Rely .none w w1 → Iv w1 → Wk P ty Iv Wg c J (f (ix w1)) ph .none (nx w1) w1) → Wk P ty Iv Wg c J (.node f) ph .none g w
  | rel {f : Ix → Tr Ix} {r : Rts} {g : Goroutine} {w : World} (nx : World → Goroutine) : g.status = .running →
      (∀ w1, Rely r w w1 → Iv w1 → J undef r w1 ∧ stepG P false g w1 = .go (nx w1) w1 #[mk (.releaseMerge (stA Wg))] ∧ (nx w1).status = .running) →
      (∀ w1, Rely r w w1 → Iv w1 → Wk P ty Iv Wg c J (f (ix w1)) .laid .none (nx w1) w1) → Wk P ty Iv Wg c J (.node f) .calm r g w
  | dis {f : Ix → Tr Ix} {g : Goroutine} {w : World} (nx : World → Goroutine) : g.status = .running →
      (∀ w1, Rely .none w w1 → Iv w1 → stepG P false g w1 = .go (nx w1) w1 #[mk .disable] ∧ (nx w1).status = .running) →
      (∀ w1, Rely .none w w1 → Iv w1 → Wk P ty Iv Wg c J (f (ix w1)) .deaf .none (nx w1) w1) → Wk P ty Iv Wg c J (.node f) .laid .none g w
  | dec {f : Ix → Tr Ix} {g : Goroutine} {w : World} (nx : World → Nat → Nat → Goroutine) : g.status = .running →
      (∀ w1, Rely .none w w1 → Iv w1 → ∀ v wt : Nat, wt ≤ 1 → v < 2147483647 → WgAt ty Wg w1 ((v + 1) * KK + wt) 0 →
        stepG P false g w1 = .go (nx w1 v wt) (w1.setCell (stA Wg) (.int .u64 (v * KK + wt))) #[rd (stA Wg), wr (stA Wg)] ∧ ((v = 0 ∧ wt = 1) → (nx w1 v wt).status = .running) ∧ (¬ (v = 0 ∧ wt = 1) → ∃ q, QuitsD P q 1 (nx w1 v wt) ∧ f (w1, undef, .none, v, wt) = Tr.nat q)) →
      (∀ w1, Rely .none w w1 → Iv w1 → ∀ v wt : Nat, (v = 0 ∧ wt = 1) → WgAt ty Wg w1 ((v + 1) * KK + wt) 0 → Wk P ty Iv Wg c J (f (w1, undef, .none, v, wt)) .n2 .none (nx w1 v wt) (w1.setCell (stA Wg) (.int .u64 (v * KK + wt)))) →
      Wk P ty Iv Wg c J (.node f) .deaf .none g w
  | d2 {f : Ix → Tr Ix} {g : Goroutine} {w : World} (nx : World → Goroutine) : g.status = .running →
      (∀ w1, Rely .none w w1 → WgAt ty Wg w1 1 0 → stepG P false g w1 = .go (nx w1) w1 #[rd (stA Wg)] ∧ (nx w1).status = .running) →
      (∀ w1, Rely .none w w1 → WgAt ty Wg w1 1 0 → Wk P ty Iv Wg c J (f (ix w1)) .n3 .none (nx w1) w1) → Wk P ty Iv Wg c J (.node f) .n2 .none g w
  | d3 {f : Ix → Tr Ix} {g : Goroutine} {w : World} (nx : World → Goroutine) : g.status = .running →
      (∀ w1, Rely .none w w1 → WgAt ty Wg w1 1 0 → stepG P false g w1 = .go (nx w1) (w1.setCell (stA Wg) (.int .u64 0)) #[wr (stA Wg)] ∧ (nx w1).status = .running) →
      (∀ w1, Rely .none w w1 → WgAt ty Wg w1 1 0 → Wk P ty Iv Wg c J (f (ix w1)) .n4 .none (nx w1) (w1.setCell (stA Wg) (.int .u64 0))) → Wk P ty Iv Wg c J (.node f) .n3 .none g w
  | d4 {f : Ix → Tr Ix} {g : Goroutine} {w : World} (nx : World → Goroutine) : g.status = .running → mayWake P g = true →
      (∀ w1, Rely .none w w1 → WgAt ty Wg w1 0 0 → stepG P false g w1 = .go (nx w1) (w1.setCell (smA Wg) (.int .u32 1)) (semEvents (smA Wg)) ∧ ∃ q, QuitsD P q 1 (nx w1) ∧ f (ix w1) = Tr.nat q) → Wk P ty Iv Wg c J (.node f) .n4 .none g w
  | send {f : Ix → Tr Ix} {r : Rts} {g : Goroutine} {w : World} {v z' : Value} (n2 : World → Goroutine) (ne : World → Array Event) : g.status = .running →
      (∀ w1, Rely r w w1 → Iv w1 → stepG P false g w1 = .comm (n2 w1) #[scase c v z'] true .send w1 (ne w1) ∧ (∀ e ∈ ne w1, EvOk r (fun _ => False) false w1.heap.size w1.heap.size e)) →
      (∀ w1, Rely r w w1 → Iv w1 → Wk P ty Iv Wg c J (f (ix w1)) (.sent v) r (served (n2 w1) undef) w1) → Wk P ty Iv Wg c J (.node f) .open_ r g w
  | close {f : Ix → Tr Ix} {r : Rts} {g : Goroutine} {w : World} {v : Value} (nx : World → Goroutine) : g.status = .running → mayWake P g = true → r.rd (.obj c) →
      (∀ w1, Rely r w w1 → Iv w1 → J v r w1 ∧ (∃ q, QuitsD P q 0 (nx w1) ∧ f (ix w1) = Tr.nat q) ∧ ∀ cap buf s k tm, w1.heap[c]? = some (.chan cap buf false s k tm) → stepG P false g w1 = .go (nx w1) (w1.setChan c cap buf true s k tm) (closeEvents c)) →
      Wk P ty Iv Wg c J (.node f) (.sent v) r g w
theorem Wk.rely {P : Program} {ty : TypeId} {Iv : World → Prop} {Wg c : Nat} {J : Jb} {T : Tr Ix} {ph : WPh} {r : Rts} {g : Goroutine} {w w' : World} (h : Wk P ty Iv Wg c J T ph r g w) (k : Rely r w w') : Wk P ty Iv Wg c J T ph r g w' := by
  cases h with
  | silent nx nw ne h1 h2 h3 h4 => exact .silent nx nw ne h1 h2 (fun w1 h => h3 w1 (k.trans h)) (fun w1 h => h4 w1 (k.trans h))
  | idle nx h1 h2 h3 h4 => exact .idle nx h1 h2 (fun w1 h => h3 w1 (k.trans h)) (fun w1 h => h4 w1 (k.trans h))
  | rel nx h2 h3 h4 => exact .rel nx h2 (fun w1 h => h3 w1 (k.trans h)) (fun w1 h => h4 w1 (k.trans h))
  | dis nx h2 h3 h4 => exact .dis nx h2 (fun w1 h => h3 w1 (k.trans h)) (fun w1 h => h4 w1 (k.trans h))
  | dec nx h2 h3 h4 => exact .dec nx h2 (fun w1 h => h3 w1 (k.trans h)) (fun w1 h => h4 w1 (k.trans h))
  | d2 nx h2 h3 h4 => exact .d2 nx h2 (fun w1 h => h3 w1 (k.trans h)) (fun w1 h => h4 w1 (k.trans h))
  | d3 nx h2 h3 h4 => exact .d3 nx h2 (fun w1 h => h3 w1 (k.trans h)) (fun w1 h => h4 w1 (k.trans h))
  | d4 nx h1 h2 h3 => exact .d4 nx h1 h2 (fun w1 h => h3 w1 (k.trans h))
  | send n2 ne h2 h3 h4 => exact .send n2 ne h2 (fun w1 h => h3 w1 (k.trans h)) (fun w1 h => h4 w1 (k.trans h))
  | close nx h1 h2 h3 h4 => exact .close nx h1 h2 h3 (fun w1 h => h4 w1 (k.trans h))
theorem Wk.running {P : Program} {ty : TypeId} {Iv : World → Prop} {Wg c : Nat} {J : Jb} {T : Tr Ix} {ph : WPh} {r : Rts} {g : Goroutine} {w : World} (h : Wk P ty Iv Wg c J T ph r g w) : g.status = .running := by
  cases h <;> assumption

/-- v is such as is handed over -/
def Heard (J : Jb) (v : Value) : Prop := ∃ q w, J v q w
theorem Wk.heard {P : Program} {ty : TypeId} {Wg c : Nat} {J : Jb} {T : Tr Ix} {ph : WPh} {r : Rts} {g : Goroutine} {w : World} (h : Wk P ty (fun _ => True) Wg c J T ph r g w) : ∀ {v : Value}, ph = .sent v → Heard J v := by
  induction h with
  | silent nx nw ne h1 h2 h3 h4 ih => exact fun e => ih _ (Rely.refl _ _) trivial e
  | idle nx h1 h2 h3 h4 ih => exact fun e => by subst e; exact absurd trivial h1
  | close nx h1 h2 h3 h4 =>
    intro v e
    cases e
    exact ⟨_, _, (h4 _ (Rely.refl _ _) trivial).1⟩
  | _ => intro v e; cases e

/-! ### the starter -/
inductive WSt where
  | idle (n : Nat)
  | pend
  | seen (v : Nat)
  | slept | woken | thru
structure Ch where
  c : Nat
  J : Jb
  got : Option Value
/-- where the starter stands: channels whose goroutines it has started and not yet heard out; or a group -/
inductive Sg where
  | chs (cs : List Ch)
  | wg (Wg : Nat) (js : List Jb) (st : WSt)
def Sg.iv (ty : TypeId) : Sg → World → Prop
  | .chs _, _ => True
  | .wg Wg _ _, w => WgLive ty Wg w
def Sg.sy : Sg → Loc → Prop
  | .chs _ => fun _ => False
  | .wg Wg _ _ => ShN Wg
/-- rights are given to a child -/
structure Split (r r' rc : Rts) : Prop where
  rd1 : ∀ l, r'.rd l → r.rd l
  rd2 : ∀ l, rc.rd l → r.rd l
  wr1 : ∀ l, r'.wr l → r.wr l
  wr2 : ∀ l, rc.wr l → r.wr l
  x1 : ∀ l, r'.wr l → ¬ rc.rd l
  x2 : ∀ l, rc.wr l → ¬ r'.rd l
  sub1 : ∀ l, r'.wr l → r'.rd l
  sub2 : ∀ l, rc.wr l → rc.rd l
  keep : ∀ l, r.rd l → r'.rd l ∨ rc.rd l ∨ r.wr l
def Rts.join (r q : Rts) : Rts := ⟨fun l => r.rd l ∨ q.rd l, fun l => r.wr l ∨ q.wr l⟩
/-- all rights of r and of what was laid down, to read and to write -/
def Rts.full (r : Rts) (qs : List Rts) : Rts := ⟨fun l => r.rd l ∨ ∃ q ∈ qs, q.rd l, fun l => r.rd l ∨ ∃ q ∈ qs, q.rd l⟩
/-- each piece of work has been done -/
def AllJ (js : List Jb) (qs : List Rts) (w : World) : Prop := qs.length = js.length ∧ ∀ (k : Nat) (J : Jb) (q : Rts), js[k]? = some J → qs[k]? = some q → J undef q w
/-- THE STARTER ON ITS WAY to its end, in Post; d: how deaf it is -/
inductive MRun (P : Program) (ty : TypeId) (Post : Value → World → Prop) : Tr Ix → Sg → Nat → Rts → Goroutine → World → Prop
  | end_ {T : Tr Ix} {r : Rts} {g : Goroutine} {w : World} : g.status = .running →
      (∀ w1, Rely r w w1 → ∃ v es, stepG P true g w1 = .ended (.done v) w1 es ∧ (∀ e ∈ es, EvOk r (fun _ => False) true w1.heap.size w1.heap.size e) ∧ Post v w1) → MRun P ty Post T (.chs []) 0 r g w
  | silent {f : Ix → Tr Ix} {σ : Sg} {d : Nat} {r : Rts} {g : Goroutine} {w : World} (nx : World → Goroutine) (nw : World → World) (ne : World → Array Event) : g.status = .running →
      (∀ w1, Rely r w w1 → σ.iv ty w1 → stepG P true g w1 = .go (nx w1) (nw w1) (ne w1) ∧ Guar r σ.sy true w1 (nw w1) (ne w1)) →
      (∀ w1, Rely r w w1 → σ.iv ty w1 → MRun P ty Post (f (ix w1)) σ d (r.new w1.heap.size (nw w1).heap.size) (nx w1) (nw w1)) → MRun P ty Post (.node f) σ d r g w
  | dis {f : Ix → Tr Ix} {σ : Sg} {d : Nat} {r : Rts} {g : Goroutine} {w : World} (nx : World → Goroutine) : g.status = .running →
      (∀ w1, Rely r w w1 → σ.iv ty w1 → stepG P true g w1 = .go (nx w1) w1 #[mk .disable]) →
      (∀ w1, Rely r w w1 → σ.iv ty w1 → MRun P ty Post (f (ix w1)) σ (d + 1) r (nx w1) w1) → MRun P ty Post (.node f) σ d r g w
  | en {f : Ix → Tr Ix} {σ : Sg} {d : Nat} {r : Rts} {g : Goroutine} {w : World} (nx : World → Goroutine) : g.status = .running →
      (∀ w1, Rely r w w1 → σ.iv ty w1 → stepG P true g w1 = .go (nx w1) w1 #[mk .enable]) →
      (∀ w1, Rely r w w1 → σ.iv ty w1 → MRun P ty Post (f (ix w1)) σ d r (nx w1) w1) → MRun P ty Post (.node f) σ (d + 1) r g w
  /-- the group's block is made -/
  | group {f : Ix → Tr Ix} {r : Rts} {g : Goroutine} {w : World} (nx : World → Goroutine) (nw : World → World) (ne : World → Array Event) : g.status = .running →
      (∀ w1, Rely r w w1 → stepG P true g w1 = .go (nx w1) (nw w1) (ne w1) ∧ Guar r (fun _ => False) true w1 (nw w1) (ne w1) ∧ (∀ e ∈ ne w1, (MemAct.ofEvent e).low w1.heap.size) ∧ (nw w1).heap.size = w1.heap.size + 1 ∧ WgAt ty w1.heap.size (nw w1) 0 0) →
      (∀ w1, Rely r w w1 → (∀ l, r.rd l → l.low w1.heap.size) → MRun P ty Post (f (ix w1)) (.wg w1.heap.size [] (.idle 0)) 0 r (nx w1) (nw w1)) → MRun P ty Post (.node f) (.chs []) 0 r g w
  | add {f : Ix → Tr Ix} {Wg n : Nat} {js : List Jb} {d : Nat} {r : Rts} {g : Goroutine} {w : World} (nx : World → Nat → Goroutine) : g.status = .running → js.length < 1000 →
      (∀ w1, Rely r w w1 → ∀ v : Nat, v < 2147483647 → WgAt ty Wg w1 (v * KK) 0 → stepG P true g w1 = .go (nx w1 v) (w1.setCell (stA Wg) (.int .u64 ((v + 1) * KK))) #[rd (stA Wg), wr (stA Wg)]) →
      (∀ w1, Rely r w w1 → ∀ v : Nat, v < 2147483647 → WgAt ty Wg w1 (v * KK) 0 → MRun P ty Post (f (w1, undef, .none, v, 0)) (.wg Wg js .pend) d r (nx w1 v) (w1.setCell (stA Wg) (.int .u64 ((v + 1) * KK)))) →
      MRun P ty Post (.node f) (.wg Wg js (.idle n)) d r g w
  | spawnW {f : Ix → Tr Ix} {Wg : Nat} {js : List Jb} {r : Rts} {g : Goroutine} {w : World} (J : Jb) (nx child : World → Goroutine) (r' rc : World → Rts) : g.status = .running → js.length < 1000 → JSt J →
      (∀ w1, Rely r w w1 → WgLive ty Wg w1 → stepG P true g w1 = .spawn (nx w1) (child w1) w1 #[] ∧ Split r (r' w1) (rc w1) ∧ ∃ T, Wk P ty (WgLive ty Wg) Wg 0 J T .calm (rc w1) (child w1) w1) →
      (∀ w1, Rely r w w1 → WgLive ty Wg w1 → MRun P ty Post (f (ix w1)) (.wg Wg (js ++ [J]) (.idle (js.length + 1))) 0 (r' w1) (nx w1) w1) → MRun P ty Post (.node f) (.wg Wg js .pend) 0 r g w
  | load1 {f : Ix → Tr Ix} {Wg n : Nat} {js : List Jb} {d : Nat} {r : Rts} {g : Goroutine} {w : World} (nx : World → Nat → Goroutine) : g.status = .running →
      (∀ w1, Rely r w w1 → ∀ v : Nat, v < 2147483648 → v ≤ n → WgAt ty Wg w1 (v * KK) 0 → stepG P true g w1 = .go (nx w1 v) w1 #[rd (stA Wg)]) →
      (∀ w1, Rely r w w1 → WgAt ty Wg w1 0 0 → MRun P ty Post (f (w1, undef, .none, 0, 0)) (.wg Wg js .thru) d r (nx w1 0) w1) →
      (∀ w1, Rely r w w1 → ∀ v : Nat, v < 2147483648 → v ≤ n → v ≠ 0 → WgAt ty Wg w1 (v * KK) 0 → MRun P ty Post (f (w1, undef, .none, v, 0)) (.wg Wg js (.seen v)) d r (nx w1 v) w1) →
      MRun P ty Post (.node f) (.wg Wg js (.idle n)) d r g w
  | cas {f : Ix → Tr Ix} {Wg vs : Nat} {js : List Jb} {d : Nat} {r : Rts} {g : Goroutine} {w : World} (nx : World → Nat → Goroutine) : g.status = .running → vs ≠ 0 →
      (∀ w1, Rely r w w1 → ∀ v : Nat, v < 2147483648 → WgAt ty Wg w1 (v * KK) 0 → (v = vs → stepG P true g w1 = .go (nx w1 v) (w1.setCell (stA Wg) (.int .u64 (v * KK + 1))) #[rd (stA Wg), wr (stA Wg)]) ∧ (v < vs → stepG P true g w1 = .go (nx w1 v) w1 #[rd (stA Wg)])) →
      (∀ w1, Rely r w w1 → WgAt ty Wg w1 (vs * KK) 0 → MRun P ty Post (f (w1, undef, .none, vs, 1)) (.wg Wg js .slept) d r (nx w1 vs) (w1.setCell (stA Wg) (.int .u64 (vs * KK + 1)))) →
      (∀ w1, Rely r w w1 → ∀ v : Nat, v < 2147483648 → v < vs → WgAt ty Wg w1 (v * KK) 0 → MRun P ty Post (f (w1, undef, .none, v, 0)) (.wg Wg js (.idle v)) d r (nx w1 v) w1) →
      MRun P ty Post (.node f) (.wg Wg js (.seen vs)) d r g w
  | park {f : Ix → Tr Ix} {Wg : Nat} {js : List Jb} {d : Nat} {r : Rts} {g : Goroutine} {w : World} (nx : World → Goroutine) : g.status = .running → g.offers = none →
      (∀ w1, Rely r w w1 → (∃ st, WgAt ty Wg w1 st 0) → stepG P true g w1 = .go { g with status := .blocked } w1 #[]) →
      (∀ w1, Rely r w w1 → WgAt ty Wg w1 0 1 → stepG P true g w1 = .go (nx w1) (w1.setCell (smA Wg) (.int .u32 0)) (semEvents (smA Wg))) →
      (∀ w1, Rely r w w1 → WgAt ty Wg w1 0 1 → MRun P ty Post (f (ix w1)) (.wg Wg js .woken) d r (nx w1) (w1.setCell (smA Wg) (.int .u32 0))) → MRun P ty Post (.node f) (.wg Wg js .slept) d r g w
  | load2 {f : Ix → Tr Ix} {Wg : Nat} {js : List Jb} {d : Nat} {r : Rts} {g : Goroutine} {w : World} (nx : World → Goroutine) : g.status = .running →
      (∀ w1, Rely r w w1 → WgAt ty Wg w1 0 0 → stepG P true g w1 = .go (nx w1) w1 #[rd (stA Wg)]) →
      (∀ w1, Rely r w w1 → WgAt ty Wg w1 0 0 → MRun P ty Post (f (ix w1)) (.wg Wg js .thru) d r (nx w1) w1) → MRun P ty Post (.node f) (.wg Wg js .woken) d r g w
  | acq {f : Ix → Tr Ix} {Wg : Nat} {js : List Jb} {r : Rts} {g : Goroutine} {w : World} (nx : World → Goroutine) : g.status = .running →
      (∀ w1, Rely r w w1 → WgLive ty Wg w1 → stepG P true g w1 = .go (nx w1) w1 #[mk (.acquire (stA Wg))]) →
      (∀ w1, Rely r w w1 → WgLive ty Wg w1 → ∀ qs : List Rts, AllJ js qs w1 → MRun P ty Post (f (w1, undef, r.full qs, 0, 0)) (.chs []) 0 (r.full qs) (nx w1) w1) → MRun P ty Post (.node f) (.wg Wg js .thru) 0 r g w
  | spawnG {f : Ix → Tr Ix} {cs : List Ch} {r : Rts} {g : Goroutine} {w : World} (c : Nat) (J : Jb) (nx child : World → Goroutine) (r' rc : World → Rts) : g.status = .running → JSt J →
      (∀ w1, Rely r w w1 → stepG P true g w1 = .spawn (nx w1) (child w1) w1 #[] ∧ Split r (r' w1) (rc w1) ∧ w1.heap[c]? = some (.chan 1 #[] false 0 0 false) ∧ r.wr (.cell ⟨c, 0, none⟩) ∧ ¬ (r' w1).rd (.cell ⟨c, 0, none⟩) ∧ ¬ (rc w1).rd (.cell ⟨c, 0, none⟩) ∧ ∃ T, Wk P ty (fun _ => True) 0 c J T .open_ (rc w1) (child w1) w1) →
      (∀ w1, Rely r w w1 → MRun P ty Post (f (ix w1)) (.chs (cs ++ [⟨c, J, none⟩])) 0 (r' w1) (nx w1) w1) → MRun P ty Post (.node f) (.chs cs) 0 r g w
  | recv {f : Ix → Tr Ix} {c : Nat} {J : Jb} {cs : List Ch} {r : Rts} {g : Goroutine} {w : World} {z : Value} (ne : World → Array Event) : g.status = .running →
      (∀ w1, Rely r w w1 → stepG P true g w1 = .comm g #[rcase c z] true (.recv true) w1 (ne w1) ∧ (∀ e ∈ ne w1, EvOk r (fun _ => False) true w1.heap.size w1.heap.size e)) →
      (∀ w1, Rely r w w1 → ∀ v, Heard J v → MRun P ty Post (f (w1, v, .none, 0, 0)) (.chs (⟨c, J, some v⟩ :: cs)) 0 r (served g (.tuple #[v, .bool true])) w1) → MRun P ty Post (.node f) (.chs (⟨c, J, none⟩ :: cs)) 0 r g w
  | hear {f : Ix → Tr Ix} {c : Nat} {J : Jb} {m : Value} {cs : List Ch} {r : Rts} {g : Goroutine} {w : World} {z : Value} (ne : World → Array Event) : g.status = .running →
      (∀ w1, Rely r w w1 → stepG P true g w1 = .comm g #[rcase c z] true (.recv true) w1 (ne w1) ∧ (∀ e ∈ ne w1, EvOk r (fun _ => False) true w1.heap.size w1.heap.size e)) →
      (∀ w1, Rely r w w1 → ∀ q, J m q w1 → cs = [] → MRun P ty Post (f (w1, undef, q, 0, 0)) (.chs []) 0 (r.full [q]) (served g (.tuple #[z, .bool false])) w1) →
      (∀ w1, Rely r w w1 → ∀ q, J m q w1 → cs ≠ [] → MRun P ty Post (f (w1, undef, q, 0, 0)) (.chs cs) 0 (r.join q) (served g (.tuple #[z, .bool false])) w1) →
      MRun P ty Post (.node f) (.chs (⟨c, J, some m⟩ :: cs)) 0 r g w
theorem MRun.running {P : Program} {ty : TypeId} {Post : Value → World → Prop} {T : Tr Ix} {σ : Sg} {d : Nat} {r : Rts} {g : Goroutine} {w : World} (h : MRun P ty Post T σ d r g w) : g.status = .running := by
  cases h <;> assumption
theorem MRun.rely {P : Program} {ty : TypeId} {Post : Value → World → Prop} {T : Tr Ix} {σ : Sg} {d : Nat} {r : Rts} {g : Goroutine} {w w' : World} (h : MRun P ty Post T σ d r g w) (k : Rely r w w') : MRun P ty Post T σ d r g w' := by
  cases h with
  | end_ h1 h2 => exact .end_ h1 fun w1 h => h2 w1 (k.trans h)
  | silent nx nw ne h1 h2 h3 => exact .silent nx nw ne h1 (fun w1 h => h2 w1 (k.trans h)) (fun w1 h => h3 w1 (k.trans h))
  | dis nx h1 h2 h3 => exact .dis nx h1 (fun w1 h => h2 w1 (k.trans h)) (fun w1 h => h3 w1 (k.trans h))
  | en nx h1 h2 h3 => exact .en nx h1 (fun w1 h => h2 w1 (k.trans h)) (fun w1 h => h3 w1 (k.trans h))
  | group nx nw ne h1 h2 h3 => exact .group nx nw ne h1 (fun w1 h => h2 w1 (k.trans h)) (fun w1 h => h3 w1 (k.trans h))
  | add nx h1 h0 h2 h3 => exact .add nx h1 h0 (fun w1 h => h2 w1 (k.trans h)) (fun w1 h => h3 w1 (k.trans h))
  | spawnW J nx ch r' rc h1 h2 h3 h4 h5 => exact .spawnW J nx ch r' rc h1 h2 h3 (fun w1 h => h4 w1 (k.trans h)) (fun w1 h => h5 w1 (k.trans h))
  | load1 nx h1 h2 h3 h4 => exact .load1 nx h1 (fun w1 h => h2 w1 (k.trans h)) (fun w1 h => h3 w1 (k.trans h)) (fun w1 h => h4 w1 (k.trans h))
  | cas nx h1 h0 h2 h3 h4 => exact .cas nx h1 h0 (fun w1 h => h2 w1 (k.trans h)) (fun w1 h => h3 w1 (k.trans h)) (fun w1 h => h4 w1 (k.trans h))
  | park nx h1 h2 h3 h4 h5 => exact .park nx h1 h2 (fun w1 h => h3 w1 (k.trans h)) (fun w1 h => h4 w1 (k.trans h)) (fun w1 h => h5 w1 (k.trans h))
  | load2 nx h1 h2 h3 => exact .load2 nx h1 (fun w1 h => h2 w1 (k.trans h)) (fun w1 h => h3 w1 (k.trans h))
  | acq nx h1 h2 h3 => exact .acq nx h1 (fun w1 h => h2 w1 (k.trans h)) (fun w1 h => h3 w1 (k.trans h))
  | spawnG c J nx ch r' rc h1 h2 h3 h4 => exact .spawnG c J nx ch r' rc h1 h2 (fun w1 h => h3 w1 (k.trans h)) (fun w1 h => h4 w1 (k.trans h))
  | recv ne h1 h2 h3 => exact .recv ne h1 (fun w1 h => h2 w1 (k.trans h)) (fun w1 h => h3 w1 (k.trans h))
  | hear ne h1 h2 h3 h4 => exact .hear ne h1 (fun w1 h => h2 w1 (k.trans h)) (fun w1 h => h3 w1 (k.trans h)) (fun w1 h => h4 w1 (k.trans h))
end Cr
end
