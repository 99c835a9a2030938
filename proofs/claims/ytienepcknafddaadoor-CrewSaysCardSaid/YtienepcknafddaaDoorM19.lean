/- PLAIN LAW of the model: THE STARTER COMES TO ITS END ON EVERY TAPE; no data race; all is handed over; everybody else only leaves (no program text in sight). -/
import Derived.Test.YtienepcknafddaaDoorM18
set_option linter.unusedVariables false
set_option linter.unusedSimpArgs false
section
namespace Cr
open Go Go.Conc
open Go.ConcR (KK WgAt stA smA rd wr mk)
open Go.ConcN (WgLive ShN sumTo upd upd_same upd_ne sumTo_upd sumTo_congr)
section
variable {P : Program} {ty : TypeId} {Post : Value → World → Prop} {C C' : Cf} {i : Nat} {Tm : Tr Ix} {σ : Sg} {d k : Nat} {Sy : Loc → Prop} {g g0 x x' : Goroutine} {sl : Option (Nat × Nat)} {Wg : Nat} {js : List Jb} {st : WSt} {cs : List Ch}
/-- somebody else than the starter has been picked -/
theorem other_step (h : Fm P ty Post C Tm σ d k Sy g g0) (hi : 1 ≤ i) (hx : C.gs[i]? = some x) (hr : x.status = .running) : Next P ty Post C Tm k sl i := by
  have his := (Array.getElem?_eq_some_iff.1 hx).1
  by_cases c : i < C.gs.size - σ.len
  · obtain ⟨y, h1, h2, h3, h4, q, h5, h6⟩ := h.old i hi c
    obtain rfl := Option.some.inj (hx.symm.trans h1)
    exact leaver_step h hi hx hr h5 h6 h4
  · have hlen := h.len
    cases σ with
    | chs cs =>
      simp only [Sg.len] at c hlen
      exact oneG_step h hi hx hr (by omega) (List.getElem?_eq_getElem (show i - (C.gs.size - cs.length) < cs.length by omega))
    | wg Wg js st =>
      simp only [Sg.len] at c hlen
      exact oneW_step h hi hx hr (by omega) (List.getElem?_eq_getElem (show i - (C.gs.size - js.length) < js.length by omega))
/-- the starter has been picked -/
theorem main_step (h : Fm P ty Post C Tm σ d k Sy g g0) (hr : g0.status = .running) :
    Next P ty Post C Tm k sl 0 ∨ ∃ v es ops, σ = .chs [] ∧ runT P (crowd C.gs C.w sl) 0 = (.ended (.done v) C.w, ops) ∧ es = ops ∧ ∀ (w : World) (sl' : Option (Nat × Nat)), Good P Post (crowd C.gs w sl') (.done v) C.w (C.t ++ ops) := by
  have hrun := h.run
  have hRr : Rely (C.R 0) C.w C.w := Rely.refl _ _
  -- where the walk stands at no receive the record is the walk's
  have hsame : ∀ {st : GStep}, stepG P true g C.w = st → (∀ g2 cc b sh w es, st ≠ .comm g2 cc b sh w es) → g0 = g ∧ k = 1 := fun {st} e hn => by
    rcases h.st with ⟨e1, hk⟩ | ⟨_, _, _, _, e1, _⟩ | ⟨ch, _, z, _, hc, ⟨e1, _⟩ | ⟨e1, hk⟩⟩
    · exact ⟨e1, hk⟩
    · rw [e1] at hr; cases hr
    · rw [e1] at hr; cases hr
    · obtain ⟨es, hc⟩ := hc C.w hRr
      exact absurd (e.symm.trans hc) (hn _ _ _ _ _ _)
  generalize hR : C.R 0 = r at hrun
  cases hrun with
  | end_ h1 h2 =>
    subst hR
    obtain ⟨v, es, s1, s2, s3⟩ := h2 C.w hRr
    obtain ⟨rfl, hk⟩ := hsame s1 (fun _ _ _ _ _ _ c => by cases c)
    obtain ⟨ops, a, b⟩ := main_end (sl := sl) h s1 s2 s3
    exact .inr ⟨v, ops, ops, rfl, a, rfl, b⟩
  | @silent f _ _ _ _ _ nx nw ne h1 h2 h3 =>
    subst hR
    have hiv : σ.iv ty C.w := by
      have := h.act
      cases σ with
      | chs cs => trivial
      | wg Wg js st => exact this.2.1.live
    obtain ⟨s1, s2⟩ := h2 C.w hRr hiv
    obtain ⟨rfl, hk⟩ := hsame s1 (fun _ _ _ _ _ _ c => by cases c)
    exact .inl (main_small h ⟨f, _, _, _, rfl, s1, s2, h3 C.w hRr hiv⟩)
  | @dis f _ _ _ _ _ nx h1 h2 h3 =>
    subst hR
    have hiv : σ.iv ty C.w := by
      have := h.act
      cases σ with
      | chs cs => trivial
      | wg Wg js st => exact this.2.1.live
    have s1 := h2 C.w hRr hiv
    obtain ⟨rfl, hk⟩ := hsame s1 (fun _ _ _ _ _ _ c => by cases c)
    exact .inl (main_mark h (.inl rfl) s1 (Tr.lt_node f _) (by simp [mk, deafBehind]) (h3 C.w hRr hiv))
  | @en f _ d' _ _ _ nx h1 h2 h3 =>
    subst hR
    have hiv : σ.iv ty C.w := by
      have := h.act
      cases σ with
      | chs cs => trivial
      | wg Wg js st => exact this.2.1.live
    have s1 := h2 C.w hRr hiv
    obtain ⟨rfl, hk⟩ := hsame s1 (fun _ _ _ _ _ _ c => by cases c)
    exact .inl (main_mark h (.inr rfl) s1 (Tr.lt_node f _) (by simp [mk, deafBehind]) (h3 C.w hRr hiv))
  | @group f _ _ _ nx nw ne h1 h2 h3 =>
    subst hR
    obtain ⟨s1, s2, s3, s4, s5⟩ := h2 C.w hRr
    obtain ⟨rfl, hk⟩ := hsame s1 (fun _ _ _ _ _ _ c => by cases c)
    exact .inl (main_group h s1 s2 s3 s4 s5 (Tr.lt_node f _) (h3 C.w hRr fun l hl => h.safe.low 0 l hl))
  | @add f _ _ _ _ _ _ _ nx h1 h0 h2 h3 =>
    subst hR
    have hW := h.act.2.1.2.1
    have hcnt := h.count
    obtain ⟨rfl, hk⟩ := hsame (h2 C.w hRr _ (by omega) hW) (fun _ _ _ _ _ _ c => by cases c)
    exact .inl (main_add h rfl h2 h3)
  | @spawnW f _ _ _ _ _ J nx chd r' rc h1 h0 hJ h2 h3 =>
    subst hR
    have hiv := h.act.2.1.live
    obtain ⟨s1, s2, T, s3⟩ := h2 C.w hRr hiv
    obtain ⟨rfl, hk⟩ := hsame s1 (fun _ _ _ _ _ _ c => by cases c)
    exact .inl (main_spawnW h s1 s2 hJ h0 (Tr.lt_node f _) s3 (h3 C.w hRr hiv))
  | @load1 f _ _ _ _ _ _ _ nx h1 h2 h3 h4 =>
    subst hR
    have hW := h.act.2.1.2.1
    have hcnt := h.count
    obtain ⟨rfl, hk⟩ := hsame (h2 C.w hRr _ (by omega) h.act.2.1.2.2 hW) (fun _ _ _ _ _ _ c => by cases c)
    exact .inl (main_load1 h rfl h2 h3 h4)
  | @cas f _ vs _ _ _ _ _ nx h1 h0 h2 h3 h4 =>
    subst hR
    have hW := h.act.2.1.2.1
    have hvn := h.act.2.1.2.2
    have hcnt := h.count
    obtain ⟨a1, a2⟩ := h2 C.w hRr _ (by omega) hW
    have hg : g0 = g ∧ k = 1 := by
      by_cases c : (sumTo C.gs.size fun i => busy (C.ph i)) = vs
      · exact hsame (a1 c) (fun _ _ _ _ _ _ c => by cases c)
      · exact hsame (a2 (by omega)) (fun _ _ _ _ _ _ c => by cases c)
    obtain ⟨rfl, hk⟩ := hg
    exact .inl (main_cas h rfl h2 h3 h4 h0)
  | @park f _ _ _ _ _ _ nx h1 ho h2 h3 h4 =>
    subst hR
    have hg : g0 = g ∧ k = 1 := by
      rcases h.st with ⟨e1, hk⟩ | ⟨_, _, _, _, e1, _⟩ | ⟨ch, _, z, e, _⟩
      · exact ⟨e1, hk⟩
      · rw [e1] at hr; cases hr
      · cases e
    obtain ⟨rfl, hk⟩ := hg
    exact .inl (main_park h hk rfl h1 ho h2 h3 h4)
  | @load2 f _ _ _ _ _ _ nx h1 h2 h3 =>
    subst hR
    obtain ⟨rfl, hk⟩ := hsame (h2 C.w hRr h.act.2.1.2.2) (fun _ _ _ _ _ _ c => by cases c)
    exact .inl (main_load2 h rfl h2 h3)
  | @acq f _ _ _ _ _ nx h1 h2 h3 =>
    subst hR
    have s1 := h2 C.w hRr h.act.2.1.live
    obtain ⟨rfl, hk⟩ := hsame s1 (fun _ _ _ _ _ _ c => by cases c)
    exact .inl (main_acq h s1 rfl fun qs hq => h3 C.w hRr h.act.2.1.live qs hq)
  | @spawnG f _ _ _ _ c J nx chd r' rc h1 hJ h2 h3 =>
    subst hR
    obtain ⟨s1, s2, s3, s4, s5, s6, T, s7⟩ := h2 C.w hRr
    obtain ⟨rfl, hk⟩ := hsame s1 (fun _ _ _ _ _ _ c => by cases c)
    exact .inl (main_spawnG h s1 s2 hJ s3 s4 s5 s6 (Tr.lt_node f _) s7 (h3 C.w hRr))
  | recv ne h1 h2 h3 =>
    subst hR
    exact .inl (main_recv h hr rfl h2 h3)
  | hear ne h1 h2 h3 h4 =>
    subst hR
    exact .inl (main_hear h hr rfl h2 h3 h4)
/-- somebody can run -/
theorem Fm.someone (h : Fm P ty Post C Tm σ d k Sy g g0) : ∃ (i : Nat) (x : Goroutine), C.gs[i]? = some x ∧ x.status = .running := by
  rcases h.st with ⟨e, _⟩ | ⟨Wg, js, e, _, _, _, hn⟩ | ⟨ch, cs, z, e, _, ⟨_, _, cap, s, r, tm, hc⟩ | ⟨e0, _⟩⟩
  · exact ⟨0, g0, h.at0, by rw [e]; exact h.run.running⟩
  · subst e
    have hlen := h.len
    simp only [Sg.len] at hlen
    have one : ∀ i, i < C.gs.size → (busy (C.ph i) = 1 ∨ isN (C.ph i)) → ∃ (i : Nat) (x : Goroutine), C.gs[i]? = some x ∧ x.status = .running := fun i hi hb => by
      have hi1 : 1 ≤ i := by
        apply Nat.one_le_iff_ne_zero.2
        intro c; subst c
        rw [h.p0] at hb
        rcases hb with hb | hb
        · cases hb
        · exact hb
      by_cases c : i < C.gs.size - js.length
      · obtain ⟨_, _, _, _, hp, _⟩ := h.old i hi1 (by simpa [Sg.len] using c)
        rw [hp] at hb
        rcases hb with hb | hb
        · cases hb
        · exact hb.elim
      · have := (h.act.1 (i - (C.gs.size - js.length)) _ (List.getElem?_eq_getElem (by omega))).2
        rw [show C.gs.size - js.length + (i - (C.gs.size - js.length)) = i by omega] at this
        obtain ⟨y, h1, h2⟩ := this
        rcases h2 with ⟨_, _, _, hw⟩ | ⟨_, _, _, _, ⟨_, _, _, _, hw⟩ | ⟨hp, _⟩⟩
        · exact ⟨i, y, h1, hw.running⟩
        · exact ⟨i, y, h1, hw.running⟩
        · rw [hp] at hb
          rcases hb with hb | hb
          · cases hb
          · exact hb.elim
    rcases h.act.2.1 with ⟨hp, _, _⟩ | ⟨_, _, hw⟩ | ⟨_, i, _, hc⟩
    · have : ∃ i, i < C.gs.size ∧ busy (C.ph i) = 1 := by
        apply Classical.byContradiction
        intro c
        have hz : ∀ n, n ≤ C.gs.size → (sumTo n fun i => busy (C.ph i)) = 0 := by
          intro n
          induction n with
          | zero => intro _; rfl
          | succ n ih =>
            intro hn
            show (sumTo n fun i => busy (C.ph i)) + busy (C.ph n) = 0
            rw [ih (by omega)]
            have := busy_le (C.ph n)
            have : busy (C.ph n) ≠ 1 := fun e => c ⟨n, by omega, e⟩
            omega
        have := hz _ (Nat.le_refl _)
        omega
      obtain ⟨i, hi, hb⟩ := this
      exact one i hi (.inl hb)
    · exact absurd hw hn
    · have hN : isN (C.ph i) := by
        rcases hc with ⟨hc | hc, _⟩ | ⟨hc, _⟩ <;> rw [hc] <;> trivial
      by_cases hi : i < C.gs.size
      · exact one i hi (.inr hN)
      · rw [(h.above i (by omega)).2.2.1] at hN; exact hN.elim
  · subst e
    obtain ⟨y, h1, h2⟩ := (h.act.1 0 ch rfl).2.1
    rcases h2 with ⟨_, _, _, _, _, hw⟩ | ⟨_, _, _, _, hw, _⟩ | ⟨_, _, _, _, _, _, _, ⟨_, a⟩ | ⟨_, a⟩⟩
    · exact ⟨_, y, h1, hw.running⟩
    · exact ⟨_, y, h1, hw.running⟩
    · rw [hc] at a; simp at a
    · rw [hc] at a; simp at a
  · exact ⟨0, g0, h.at0, by rw [e0]⟩
def Inv (P : Program) (ty : TypeId) (Post : Value → World → Prop) (μ : Ms Ix) (m : Machine) (t : Trace) : Prop :=
  ∃ (C : Cf) (sl : Option (Nat × Nat)) (Tm : Tr Ix) (σ : Sg) (d k : Nat) (Sy : Loc → Prop) (g g0 : Goroutine), m = crowd C.gs C.w sl ∧ t = C.t ∧ Fm P ty Post C Tm σ d k Sy g g0 ∧ μ = ⟨Tm, C.gs.size, C.F, k⟩
theorem inv_step (μ : Ms Ix) (m : Machine) (t : Trace) (h : Inv P ty Post μ m t) :
    (∃ o w ops, stepT P m = (.ended o w, ops) ∧ Good P Post m o w (t ++ ops)) ∨ (∃ m' ops μ', stepT P m = (.next m', ops) ∧ Ms.Lt μ' μ ∧ Inv P ty Post μ' m' (t ++ ops)) := by
  obtain ⟨C, sl, Tm, σ, d, k, Sy, g, g0, rfl, rfl, hF, rfl⟩ := h
  obtain ⟨i, x, n, sl', hi, hx, hst⟩ := crowd_pick (P := P) (w := C.w) (sl := sl) hF.awake hF.someone
  have hF' := hF.at n
  have hnext : Next P ty Post (C.at n) Tm k sl' i → (∃ o w ops, stepT P (crowd C.gs C.w sl) = (.ended o w, ops) ∧ Good P Post (crowd C.gs C.w sl) o w (C.t ++ ops)) ∨ (∃ m' ops μ', stepT P (crowd C.gs C.w sl) = (.next m', ops) ∧ Ms.Lt μ' ⟨Tm, C.gs.size, C.F, k⟩ ∧ Inv P ty Post μ' m' (C.t ++ ops)) := by
    rintro ⟨C', ops, Tm', σ', d', k', Sy', g', g0', hr, ht, hf, hlt⟩
    exact .inr ⟨_, ops, _, hst.trans hr, hlt, C', sl', Tm', σ', d', k', Sy', g', g0', rfl, ht.symm, hf, rfl⟩
  rcases Nat.eq_zero_or_pos i with rfl | hpos
  · obtain rfl := Option.some.inj (hi.symm.trans hF.at0)
    rcases main_step (sl := sl') hF' hx with hn | ⟨v, es, ops, _, hr, _, hgood⟩
    · exact hnext hn
    · exact .inl ⟨_, _, ops, hst.trans hr, hgood C.w sl⟩
  · exact hnext (other_step hF' hpos (by exact hi) hx)
/-- ████ on every tape the starter comes to its end ████ -/
theorem mrun_ends {T : Tr Ix} {r : Rts} {g : Goroutine} {w : World} (h : MRun P ty Post T (.chs []) 0 r g w) (hlow : ∀ l, r.rd l → l.low w.heap.size) (hmem : ∀ l, r.rd l → l.isMemory = true) (hsub : ∀ l, r.wr l → r.rd l) :
    ∃ N last o w' t', runNT P (N + 1) (crowd #[g] w none) #[] = (.ended o w', t') ∧ runN P N (crowd #[g] w none) = .next last ∧ step P last = .ended o w' ∧ Good P Post last o w' t' := by
  refine run_of_inv Ms.wf (Inv P ty Post) (Good P Post) inv_step ⟨T, 1, fun _ => .leaf, 1⟩ _ _ ⟨⟨#[g], w, #[], fun _ => .leaf, fun i => if i = 0 then r else .none, fun i => if i = 0 then .live else .done, fun _ => none⟩, none, T, .chs [], 0, 1, fun _ => False, g, g, rfl, rfl, ⟨rfl, h, .inl ⟨rfl, rfl⟩, rfl, rfl, rfl, ?_, fun _ c => c.elim, by simp [Sg.len], fun i h1 h2 => ?_, ⟨fun m ch hm => by simp at hm, fun m m' a b ha => by simp at ha⟩, fun i hi => ?_⟩, rfl⟩
  · have r0 : ∀ i l, ((fun i => if i = 0 then r else Rts.none) i).rd l → i = 0 ∧ r.rd l := fun i l hl => by
      by_cases e : i = 0
      · subst e; exact ⟨rfl, hl⟩
      · simp only [if_neg e] at hl; exact hl.elim
    have w0 : ∀ i l, ((fun i => if i = 0 then r else Rts.none) i).wr l → i = 0 ∧ r.wr l := fun i l hl => by
      by_cases e : i = 0
      · subst e; exact ⟨rfl, hl⟩
      · simp only [if_neg e] at hl; exact hl.elim
    have nt : ∀ {x : Nat} {a : Touch}, touchAt #[] x = some a → False := fun h => by simp [touchAt, Trace.act?] at h
    refine ⟨fun said => ?_, by simp, fun x a ha => (nt ha).elim, fun i x a ha => (nt ha).elim, fun i j l hw hr => (w0 i l hw).1.trans (r0 j l hr).1.symm, fun i l hw => ?_, fun i l hr => hlow l (r0 i l hr).2, fun i l hr => hmem l (r0 i l hr).2, fun _ _ _ c => c, fun _ c => c.elim, fun _ c => c.elim, fun x a ha => (nt ha).elim, fun x g hg => by simp [Trace.g?] at hg, by simp⟩
    · rintro ⟨i, j, _, ⟨a, b, ha, _⟩, _⟩
      exact nt ha
    · obtain ⟨rfl, hw⟩ := w0 i l hw
      exact hsub l hw
  · simp [Sg.len] at h2; omega
  · have : i ≠ 0 := by simp at hi; omega
    exact ⟨if_neg this, if_neg this, rfl, by simp⟩
end
end Cr
end
