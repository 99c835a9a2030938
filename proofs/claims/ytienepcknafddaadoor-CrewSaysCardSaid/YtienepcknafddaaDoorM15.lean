/- PLAIN LAW of the model: a worker of a group takes a step (no program text in sight). -/
import Derived.Test.YtienepcknafddaaDoorM14
set_option linter.unusedVariables false
set_option linter.unusedSimpArgs false
section
namespace Cr
open Go Go.Conc
open Go.ConcR (KK WgAt stA smA rd wr mk)
open Go.ConcN (WgLive ShN sumTo upd upd_same upd_ne sumTo_upd sumTo_congr)
section
variable {P : Program} {ty : TypeId} {Post : Value → World → Prop} {C C' : Cf} {i : Nat} {Tm : Tr Ix} {d k : Nat} {Sy : Loc → Prop} {g g0 x x' : Goroutine} {sl : Option (Nat × Nat)} {Wg : Nat} {js : List Jb} {st : WSt}
theorem one_op {fn : FuncId} {pos : String} (m : Mark) : MemOp.ofEvents i fn pos #[mk m] = #[{ g := i, fn, pos, act := .mark m }] := by simp [MemOp.ofEvents, mk, MemAct.ofEvent]
/-- a worker turns nothing but the group's cells -/
theorem grp_step (h : Fm P ty Post C Tm (.wg Wg js st) d k Sy g g0) (hi : 1 ≤ i) (hx : C.gs[i]? = some x) (hge : C.gs.size - js.length ≤ i) {w' : World} {es : Array Event} {T' : Tr Ix} {e' : Est} {p' : Option WPh} (hs : stepG P false x C.w = .go x' w' es)
    (ht : Turn (ShN Wg) C.w w') (hT : Tr.Lt T' (C.F i)) (hsafe : Safe Sy C.R (upd C.E i e') w'.heap.size (C.t ++ MemOp.ofEvents i x.frame.fn x.frame.place es))
    (hM : WgAt ty Wg w' 0 1 → ¬ WgAt ty Wg C.w 0 1 → mayWake P x = true ∧ x'.status ≠ .blocked ∧ x'.status ≠ .waiting)
    (hG : ∀ C' : Cf, C'.gs.size = C.gs.size → C'.w = w' → C'.ph = upd C.ph i p' → Grp ty Wg C' st)
    (hO : ∀ J, js[i - (C.gs.size - js.length)]? = some J → ∀ C' : Cf, C'.gs[i]? = some x' → C'.w = w' → C'.t = C.t ++ MemOp.ofEvents i x.frame.fn x.frame.place es → C'.F i = T' → C'.R i = C.R i → C'.E i = e' → C'.ph i = p' → OneW P ty Wg J C' i) : Next P ty Post C Tm k sl i := by
  have his := (Array.getElem?_eq_some_iff.1 hx).1
  have hrun := run_go (sl := sl) hi hx hs
  obtain ⟨k', g0', hF'⟩ := h.other (C' := ⟨(C.gs.map (woken P x x' w')).setIfInBounds i x', w', C.t ++ MemOp.ofEvents i x.frame.fn x.frame.place es, upd C.F i T', C.R, upd C.E i e', upd C.ph i p'⟩) hi hx rfl
    (fun j hj => ⟨ht.mono fun l hl c => h.safe.nosy j l c (h.sy l hl), rfl, upd_ne _ _ hj, upd_ne _ _ hj, upd_ne _ _ hj⟩) ⟨_, rfl, ops_g⟩ hsafe
    (fun Wg' js' e c1 c2 => by
      simp only [Sg.wg.injEq] at e
      obtain ⟨rfl, rfl, rfl⟩ := e
      exact hM c1 c2) (fun ch cs e => by cases e)
    (fun hl => absurd hge (by simp only [Sg.len] at hl; omega))
    (fun hsz hself hstay => act_wg h.act hsz hstay h.len (fun _ J hJ => hO J hJ _ hself rfl rfl (upd_same _ _ _) rfl (upd_same _ _ _) (upd_same _ _ _)) (hG _ hsz rfl rfl))
  refine ⟨_, _, Tm, .wg Wg js st, d, k', Sy, g, g0', hrun, rfl, hF', .inr (.inl ⟨rfl, by simp, ?_⟩)⟩
  simp only [Array.size_setIfInBounds, Array.size_map]
  exact bag_upd his hT
/-- the state of a group while one is busy -/
theorem sum_pos {φ : Nat → Nat} {i : Nat} : ∀ {n}, i < n → φ i ≤ sumTo n φ := by
  intro n
  induction n with
  | zero => intro h; omega
  | succ n ih =>
    intro h
    unfold sumTo
    by_cases e : i = n
    · subst e; omega
    · have := ih (by omega); omega
theorem sum_upd (ph : Nat → Option WPh) (p' : Option WPh) {n : Nat} (hi : i < n) : sumTo n (fun j => busy (upd ph i p' j)) + busy (ph i) = sumTo n (fun j => busy (ph j)) + busy p' := sumTo_upd ph p' busy hi
theorem sum_bound {φ : Nat → Nat} {b : Nat} (h1 : ∀ j, φ j ≤ 1) (h2 : ∀ j, j < b → φ j = 0) : ∀ n, sumTo n φ ≤ n - b := by
  intro n
  induction n with
  | zero => simp [sumTo]
  | succ n ih =>
    unfold sumTo
    by_cases e : n < b
    · rw [h2 n e]; omega
    · have := h1 n; omega
theorem busy_le (p : Option WPh) : busy p ≤ 1 := by
  unfold busy
  split <;> omega
theorem Fm.count' (h : Fm P ty Post C Tm (.wg Wg js st) d k Sy g g0) : sumTo C.gs.size (fun j => busy (C.ph j)) ≤ js.length := by
  have hl := h.len
  simp only [Sg.len] at hl
  have := sum_bound (b := C.gs.size - js.length) (φ := fun j => busy (C.ph j)) (fun j => busy_le _) (fun j hj => by
    rcases Nat.eq_zero_or_pos j with e | e
    · subst e; simp only [h.p0]; rfl
    · obtain ⟨_, _, _, _, hp, _⟩ := h.old j e hj
      simp only [hp]; rfl) C.gs.size
  omega
theorem Fm.count (h : Fm P ty Post C Tm (.wg Wg js st) d k Sy g g0) : sumTo C.gs.size (fun j => busy (C.ph j)) ≤ 1000 := Nat.le_trans h.count' h.act.2.2
theorem grp_busy (h : Grp ty Wg C st) (hi : i < C.gs.size) (hb : busy (C.ph i) = 1) :
    (∀ j, ¬ isN (C.ph j)) ∧ ∃ v : Nat, v + 1 = sumTo C.gs.size (fun j => busy (C.ph j)) ∧ (((∃ n, (st = .idle n ∨ st = .seen n) ∧ v + 1 ≤ n) ∧ WgAt ty Wg C.w ((v + 1) * KK + (0 : Nat)) 0) ∨ (st = .pend ∧ WgAt ty Wg C.w (((v + 1 : Nat) + 1) * KK + (0 : Nat)) 0) ∨ (st = .slept ∧ WgAt ty Wg C.w ((v + 1) * KK + (1 : Nat)) 0)) := by
  have hp := sum_pos (φ := fun j => busy (C.ph j)) hi
  simp only [hb] at hp
  obtain ⟨v, hv⟩ : ∃ v, sumTo C.gs.size (fun j => busy (C.ph j)) = v + 1 := ⟨sumTo C.gs.size (fun j => busy (C.ph j)) - 1, by omega⟩
  unfold Grp at h
  simp only [hv] at h
  cases st with
  | idle n => exact ⟨h.1, v, hv.symm, .inl ⟨⟨n, .inl rfl, h.2.2⟩, by have := h.2.1; simpa using this⟩⟩
  | seen n => exact ⟨h.1, v, hv.symm, .inl ⟨⟨n, .inr rfl, h.2.2⟩, by have := h.2.1; simpa using this⟩⟩
  | pend => exact ⟨h.1, v, hv.symm, .inr (.inl ⟨rfl, by have := h.2; simpa using this⟩)⟩
  | slept =>
    rcases h with ⟨_, h1, h2⟩ | ⟨h1, _⟩ | ⟨h1, _⟩
    · exact ⟨h1, v, hv.symm, .inr (.inr ⟨rfl, by simpa using h2⟩)⟩
    · omega
    · omega
  | woken => exact absurd h.1 (by omega)
  | thru => exact absurd h.1 (by omega)
theorem still_events {es : Array Event} {fn : FuncId} {pos : String} (h : Safe Sy C.R C.E C.w.heap.size C.t) (hes : ∀ e ∈ es, (MemAct.ofEvent e).touch? = none ∧ (∀ a, e.loc ≠ .mark (.release a)) ∧ (MemAct.ofEvent e).low C.w.heap.size) :
    Safe Sy C.R C.E C.w.heap.size (C.t ++ MemOp.ofEvents i fn pos es) := h.mute
  (fun op hop => by obtain ⟨e, he, rfl⟩ := mem_ofEvents hop; exact (hes e he).2.2)
  (fun op hop a => by obtain ⟨e, he, rfl⟩ := mem_ofEvents hop; exact ofEvent_rel (hes e he).2.1 a)
  (fun op hop => by obtain ⟨e, he, rfl⟩ := mem_ofEvents hop; exact (hes e he).1)
theorem upd_eq {α : Type} {f : Nat → α} {a : α} (h : f i = a) : upd f i a = f := by
  funext j
  by_cases e : j = i
  · subst e; rw [upd_same, h]
  · rw [upd_ne _ _ e]
theorem sem_ops {fn : FuncId} {pos : String} (a : Addr) : MemOp.ofEvents i fn pos (semEvents a) = #[{ g := i, fn, pos, act := .mark .disable }, { g := i, fn, pos, act := .access ⟨.cell a, false, true⟩ }, { g := i, fn, pos, act := .access ⟨.cell a, true, true⟩ }, { g := i, fn, pos, act := .mark .enable }] := by
  simp [MemOp.ofEvents, semEvents, MemAct.ofEvent]
theorem sem_safe {fn : FuncId} {pos : String} {a : Addr} (h : Safe Sy C.R C.E C.w.heap.size C.t) (hS : Sy (.cell a)) (hl : a.block < C.w.heap.size) : Safe Sy C.R C.E C.w.heap.size (C.t ++ MemOp.ofEvents i fn pos (semEvents a)) := by
  refine h.deaf (g := i) ops_g (fun op hop => ?_) (fun op hop b => ?_) (fun op hop b hb => ?_) (fun y hy hty => ?_)
  · rw [sem_ops] at hop
    simp only [List.mem_toArray, List.mem_cons, List.not_mem_nil, or_false] at hop
    rcases hop with rfl | rfl | rfl | rfl
    · trivial
    · exact hl
    · exact hl
    · trivial
  · rw [sem_ops] at hop
    simp only [List.mem_toArray, List.mem_cons, List.not_mem_nil, or_false] at hop
    rcases hop with rfl | rfl | rfl | rfl <;> simp
  · rw [sem_ops] at hop
    simp only [List.mem_toArray, List.mem_cons, List.not_mem_nil, or_false] at hop
    rcases hop with rfl | rfl | rfl | rfl
    · cases hb
    · simp only [MemAct.touch?, Option.some.injEq] at hb; subst hb; exact ⟨hS, rfl⟩
    · simp only [MemAct.touch?, Option.some.injEq] at hb; subst hb; exact ⟨hS, rfl⟩
    · cases hb
  · rintro ⟨g', hg', hd'⟩
    obtain ⟨op, ho, hog⟩ := Option.map_eq_some_iff.1 hg'
    have hgi : g' = i := by
      rcases getElem?_append_cases ho with ⟨c, _⟩ | ⟨_, c⟩
      · omega
      · rw [← hog]; exact ops_g op c
    subst hgi
    have hyl := lt_size_of_getElem? ho
    obtain ⟨j, rfl⟩ : ∃ j, y = C.t.size + j := ⟨y - C.t.size, by omega⟩
    rw [sem_ops] at hyl hty
    simp at hyl
    rw [deaf_inside _ _ _ _ _ _ (by simp [semEvents]; omega)] at hd'
    have hj : j = 0 ∨ j = 1 ∨ j = 2 ∨ j = 3 := by omega
    have hta : ∀ o : MemOp, (#[({ g := g', fn, pos, act := .mark .disable } : MemOp), { g := g', fn, pos, act := .access ⟨.cell a, false, true⟩ }, { g := g', fn, pos, act := .access ⟨.cell a, true, true⟩ }, { g := g', fn, pos, act := .mark .enable }])[j]? = some o → o.act.touch? ≠ none := fun o ho c => hty (by
      unfold touchAt Trace.act?
      rw [Array.getElem?_append_right (by omega), show C.t.size + j - C.t.size = j by omega, ho]
      exact c)
    rcases hj with rfl | rfl | rfl | rfl
    · exact hta _ rfl rfl
    · simp [semEvents, deafBehind] at hd'
    · simp [semEvents, deafBehind] at hd'
    · exact hta _ rfl rfl
/-- A WORKER LAYS DOWN ITS RIGHTS -/
theorem laid_safe {op : MemOp} (h : Safe Sy C.R C.E C.w.heap.size C.t) (hE : C.E i = .live) (hg : op.g = i) (hl : op.act.low C.w.heap.size) (hn : ∀ a, op.act ≠ .mark (.release a)) (ht : op.act.touch? = none) :
    Safe Sy C.R (upd C.E i (.laid C.t.size)) C.w.heap.size (C.t ++ #[op]) := by
  have e0 : (C.t ++ #[op])[C.t.size]? = some op := by rw [Array.getElem?_append_right (Nat.le_refl _)]; simp
  have hk : ∀ j y, Kn (C.t ++ #[op]) C.E j y → Kn (C.t ++ #[op]) (upd C.E i (.laid C.t.size)) j y := fun j y hy => by
    by_cases e : j = i
    · subst e
      unfold Kn at hy ⊢
      rw [hE] at hy
      rw [upd_same]
      exact knows_last e0 hg (fun q hq => by simp at hq; omega) hy
    · unfold Kn at hy ⊢
      rw [upd_ne _ _ e]; exact hy
  have h1 := h.mute (u := #[op]) (fun o ho => by simp at ho; rw [ho]; exact hl) (fun o ho => by simp at ho; rw [ho]; exact hn) (fun o ho => by simp at ho; rw [ho]; exact ht)
  exact h1.move (fun j l hr => ⟨j, hr, hk j⟩) (fun j j' l hr _ => ⟨j, hr, hk j⟩) h1.excl h1.sub fun y j _ => hk j y
/-- A WORKER OF THE GROUP TAKES A STEP -/
theorem oneW_step (h : Fm P ty Post C Tm (.wg Wg js st) d k Sy g g0) (hi : 1 ≤ i) (hx : C.gs[i]? = some x) (hr : x.status = .running) (hge : C.gs.size - js.length ≤ i) {J : Jb} (hJ : js[i - (C.gs.size - js.length)]? = some J) : Next P ty Post C Tm k sl i := by
  have his := (Array.getElem?_eq_some_iff.1 hx).1
  have hact := h.act
  have hJst := (hact.1 _ J hJ).1
  have ho := (hact.1 _ J hJ).2
  have hGr := hact.2.1
  have hIv : WgLive ty Wg C.w := hGr.live
  have hlt := live_lt hIv
  rw [show C.gs.size - js.length + (i - (C.gs.size - js.length)) = i by omega] at ho
  obtain ⟨y, h1, h2⟩ := ho
  have hxy : x = y := Option.some.inj (hx.symm.trans h1)
  subst hxy
  have hcell : ∀ off, Sy (.cell ⟨Wg, off, none⟩) := fun off => h.sy _ ⟨_, rfl, rfl⟩
  -- steps of one that is deaf
  have deafSafe : ∀ {es : Array Event} {w' : World} {p : Nat}, C.E i = .laid p → 0 < Deaf C.t i → w'.heap.size = C.w.heap.size → (∀ e ∈ es, ∃ off wrt, e = ⟨.cell ⟨Wg, off, none⟩, wrt, true⟩) →
      Safe Sy C.R (upd C.E i (.laid p)) w'.heap.size (C.t ++ MemOp.ofEvents i x.frame.fn x.frame.place es) := by
    intro es w' p hE hd hs hes
    rw [upd_eq hE, hs]
    refine h.safe.deaf (g := i) ops_g (fun op hop => ?_) (fun op hop a => ?_) (fun op hop b hb => ?_) (fun y hy hty => ?_)
    · obtain ⟨e, he, rfl⟩ := mem_ofEvents hop
      obtain ⟨off, wrt, rfl⟩ := hes e he
      exact hlt
    · obtain ⟨e, he, rfl⟩ := mem_ofEvents hop
      obtain ⟨off, wrt, rfl⟩ := hes e he
      exact ofEvent_rel (e := ⟨.cell ⟨Wg, off, none⟩, wrt, true⟩) (by simp) a
    · obtain ⟨e, he, rfl⟩ := mem_ofEvents hop
      obtain ⟨off, wrt, rfl⟩ := hes e he
      simp only [MemAct.ofEvent, MemAct.touch?, Option.some.injEq] at hb
      subst hb
      exact ⟨hcell off, rfl⟩
    · rintro ⟨g', hg', hd'⟩
      have hyl : y < (C.t ++ MemOp.ofEvents i x.frame.fn x.frame.place es).size := by
        apply Nat.lt_of_not_le
        intro c
        exact hty (by unfold touchAt Trace.act?; rw [Array.getElem?_eq_none c]; rfl)
      have hgi : g' = i := by
        obtain ⟨op, ho, hog⟩ := Option.map_eq_some_iff.1 hg'
        rcases getElem?_append_cases ho with ⟨c, _⟩ | ⟨_, c⟩
        · omega
        · rw [← hog]; exact ops_g op c
      subst hgi
      have hq := deaf_quiet (t := C.t) (u := MemOp.ofEvents g' x.frame.fn x.frame.place es) (g := g') (fun op hop dd => by
        obtain ⟨e, he, rfl⟩ := mem_ofEvents hop
        obtain ⟨off, wrt, rfl⟩ := hes e he
        rfl) (y - C.t.size) (by simp at hyl; omega)
      rw [show C.t.size + (y - C.t.size) = y by omega] at hq
      omega
  rcases h2 with ⟨e, p, hd, hw⟩ | ⟨p, e, hrel, hj, ⟨z, hp, hnl, hd, hw⟩ | ⟨hp, q, hq, hf⟩⟩
  · generalize hFi : C.F i = T at hw
    generalize hph : WPh.calm = c at hw
    generalize hRi : C.R i = ri at hw
    cases hw with
    | @silent f _ _ _ _ nx nw ne hl h2 h3 h4 =>
      subst hph
      subst hRi
      obtain ⟨s1, s2, s3⟩ := h3 C.w (Rely.refl _ _) hIv
      refine own_step h hi hx e hge s1 s2 (T' := f (ix C.w)) (by rw [hFi]; exact Tr.lt_node f _) ?_ (fun cs c => by cases c)
      intro Wg' js' st' eσ J' hJ' _ C' c1 c2 c3 c4 c5 c6 c7
      simp only [Sg.wg.injEq] at eσ
      obtain ⟨rfl, rfl, rfl⟩ := eσ
      obtain rfl := Option.some.inj (hJ.symm.trans hJ')
      refine ⟨_, c1, .inl ⟨c6.trans e, c7.trans p, ?_, ?_⟩⟩
      · rw [c3, deaf_own_still fun ev hev => ⟨(s2.evs ev hev).2.1, (s2.evs ev hev).2.2.1⟩]; exact hd
      · rw [c2, c4, c5]; exact h4 C.w (Rely.refl _ _) hIv
    | idle nx hl => subst hph; exact absurd trivial hl
    | @rel f _ _ _ nx h2 h3 h4 =>
      subst hRi
      obtain ⟨s1, s2, s3⟩ := h3 C.w (Rely.refl _ _) hIv
      have e0 : (C.t ++ MemOp.ofEvents i x.frame.fn x.frame.place #[mk (.releaseMerge (stA Wg))])[C.t.size]? = some { g := i, fn := x.frame.fn, pos := x.frame.place, act := .mark (.releaseMerge (stA Wg)) } := by
        rw [one_op, Array.getElem?_append_right (Nat.le_refl _)]; simp
      refine grp_step h hi hx hge s2 (Turn.refl _ _) (T' := f (ix C.w)) (by rw [hFi]; exact Tr.lt_node f _) (e' := .laid C.t.size) (p' := some .laid) ?_ (fun a b => absurd a b) (fun C' c1 c2 c3 => ?_) (fun J' hJ' C' c1 c2 c3 c4 c5 c6 c7 => ?_)
      · rw [one_op]
        exact laid_safe h.safe e rfl hlt (by simp) rfl
      · refine hGr.keep c1 (fun j => ?_) (by rw [c2])
        rw [c3]
        by_cases ej : j = i
        · subst ej; rw [upd_same, p]; exact .inr ⟨rfl, id, id⟩
        · rw [upd_ne _ _ ej]; exact .inl rfl
      · obtain rfl := Option.some.inj (hJ.symm.trans hJ')
        refine ⟨_, c1, .inr ⟨C.t.size, c6, ⟨_, by rw [c3]; exact e0, rfl, rfl, i, ?_, ?_⟩, by rw [c5, c2]; exact s1, .inl ⟨.laid, c7, id, ?_, ?_⟩⟩⟩
        · rw [c3]; unfold Trace.g?; rw [e0]; rfl
        · rw [c3, deaf_old (Nat.le_refl _)]; exact hd
        · rw [c3, deaf_own_still fun ev hev => ?_]
          · exact hd
          · simp at hev; subst hev; simp [mk]
        · rw [c2, c4]; exact h4 C.w (Rely.refl _ _) hIv
    | _ => cases hph
  · generalize hFi : C.F i = T at hw
    have hRn : Rely .none C.w C.w := Rely.refl _ _
    have hnb : ∀ j, j ≠ i → ∀ p', upd C.ph i p' j = C.ph j := fun j hj p' => upd_ne _ _ hj
    generalize hR : Rts.none = rr at hw
    cases hw with
    | silent nx nw ne hl => exact absurd hl hnl
    | @idle f _ _ _ nx hl h2 h3 h4 =>
      obtain ⟨s1, s2⟩ := h3 C.w hRn hIv
      refine grp_step h hi hx hge s1 (Turn.refl _ _) (T' := f (ix C.w)) (by rw [hFi]; exact Tr.lt_node f _) (e' := .laid p) (p' := some z) ?_ (fun a b => absurd a b) (fun C' c1 c2 c3 => ?_) (fun J' hJ' C' c1 c2 c3 c4 c5 c6 c7 => ?_)
      · rw [upd_eq e]
        have : MemOp.ofEvents i x.frame.fn x.frame.place #[] = #[] := rfl
        rw [this, Array.append_empty]; exact h.safe
      · exact hGr.keep c1 (fun j => by rw [c3, upd_eq hp]; exact .inl rfl) (by rw [c2])
      · obtain rfl := Option.some.inj (hJ.symm.trans hJ')
        refine ⟨_, c1, .inr ⟨p, c6, by rw [c3]; exact hrel.app _, by rw [c5, c2]; exact hj, .inl ⟨z, c7, hnl, ?_, ?_⟩⟩⟩
        · rw [c3]
          have : MemOp.ofEvents i x.frame.fn x.frame.place #[] = #[] := rfl
          rw [this, Array.append_empty]; exact hd
        · rw [c2, c4]; exact h4 C.w hRn hIv
    | @dis f _ _ nx h2 h3 h4 =>
      obtain ⟨s1, s2⟩ := h3 C.w hRn hIv
      refine grp_step h hi hx hge s1 (Turn.refl _ _) (T' := f (ix C.w)) (by rw [hFi]; exact Tr.lt_node f _) (e' := .laid p) (p' := some .deaf) ?_ (fun a b => absurd a b) (fun C' c1 c2 c3 => ?_) (fun J' hJ' C' c1 c2 c3 c4 c5 c6 c7 => ?_)
      · rw [upd_eq e]
        exact still_events h.safe fun ev hev => by simp at hev; subst hev; exact ⟨rfl, by simp [mk], trivial⟩
      · refine hGr.keep c1 (fun j => ?_) (by rw [c2])
        rw [c3]
        by_cases ej : j = i
        · subst ej; rw [upd_same, hp]; exact .inr ⟨rfl, id, id⟩
        · rw [upd_ne _ _ ej]; exact .inl rfl
      · obtain rfl := Option.some.inj (hJ.symm.trans hJ')
        refine ⟨_, c1, .inr ⟨p, c6, by rw [c3]; exact hrel.app _, by rw [c5, c2]; exact hj, .inl ⟨.deaf, c7, id, ?_, ?_⟩⟩⟩
        · rw [c3, Deaf_own, hd]; rfl
        · rw [c2, c4]; exact h4 C.w hRn hIv
    | @dec f _ _ nx h2 h3 h4 =>
      obtain ⟨hN, v, hv, hst⟩ := grp_busy hGr his (by rw [hp]; rfl)
      have hcnt := h.count
      have hsum := fun p' => sum_upd (i := i) C.ph p' his
      simp only [hp, show busy (some WPh.deaf) = 1 from rfl] at hsum
      have hd1 : 0 < Deaf C.t i := by rw [hd]; decide
      have hev : ∀ ev ∈ (#[rd (stA Wg), wr (stA Wg)] : Array Event), ∃ off wrt, ev = ⟨.cell ⟨Wg, off, none⟩, wrt, true⟩ := fun ev hev => by
        simp at hev
        rcases hev with rfl | rfl
        · exact ⟨0, false, rfl⟩
        · exact ⟨0, true, rfl⟩
      have hdq : Deaf (C.t ++ MemOp.ofEvents i x.frame.fn x.frame.place #[rd (stA Wg), wr (stA Wg)]) i = Deaf C.t i := deaf_own_still fun ev he => by
        obtain ⟨off, wrt, rfl⟩ := hev ev he; simp
      have hTurn : ∀ n : Int, Turn (ShN Wg) C.w (C.w.setCell (stA Wg) (.int .u64 n)) := fun n => Turn.setCell _ _ _ ⟨_, rfl, rfl⟩
      have hsz : ∀ n : Int, (C.w.setCell (stA Wg) (.int .u64 n)).heap.size = C.w.heap.size := fun n => by simp [World.setCell]
      have hno1 : ∀ {n : Int}, WgAt ty Wg C.w n 0 → ∀ {n' : Int}, ¬ WgAt ty Wg (C.w.setCell (stA Wg) (.int .u64 n')) 0 1 := fun {n} ha {n'} c => by
        have := (Go.ConcR.WgAt.unique (ha.setSt n') c).2
        omega
      -- it leaves
      have leave : ∀ (v' wt : Nat), v' < 2147483647 → wt ≤ 1 → WgAt ty Wg C.w ((v' + 1) * KK + wt) 0 → ¬ (v' = 0 ∧ wt = 1) → (∀ C' : Cf, C'.gs.size = C.gs.size → C'.w = C.w.setCell (stA Wg) (.int .u64 (v' * KK + wt)) → C'.ph = upd C.ph i none → Grp ty Wg C' st) → Next P ty Post C Tm k sl i := by
        intro v' wt hv' hwt ha hne hG
        obtain ⟨s1, _, s3⟩ := h3 C.w hRn hIv v' wt hwt hv' ha
        obtain ⟨q, hq, hfq⟩ := s3 hne
        refine grp_step h hi hx hge s1 (hTurn _) (T' := f (C.w, undef, .none, v', wt)) (by rw [hFi]; exact Tr.lt_node f _) (e' := .laid p) (p' := none) (deafSafe e hd1 (hsz _) hev) (fun c _ => absurd c (hno1 ha)) hG (fun J' hJ' C' c1 c2 c3 c4 c5 c6 c7 => ?_)
        obtain rfl := Option.some.inj (hJ.symm.trans hJ')
        refine ⟨_, c1, .inr ⟨p, c6, by rw [c3]; exact hrel.app _, ?_, .inr ⟨c7, q, ?_, c4.trans hfq⟩⟩⟩
        · rw [c5, c2]
          exact hJst _ _ _ _ hj ((hTurn _).mono fun l hl c => h.safe.nosy i l c (h.sy l hl))
        · rw [c3, hdq, hd]; exact hq
      have hNu : ∀ C' : Cf, C'.ph = upd C.ph i none → ∀ j, ¬ isN (C'.ph j) := fun C' c j => by
        rw [c]
        by_cases ej : j = i
        · subst ej; rw [upd_same]; exact id
        · rw [upd_ne _ _ ej]; exact hN j
      have hs0 : sumTo C.gs.size (fun j => busy (upd C.ph i none j)) = v := by
        have := hsum none
        simp only [show busy none = 0 from rfl] at this
        omega
      rcases hst with ⟨⟨n, a3, a5⟩, a4⟩ | ⟨a1, a4⟩ | ⟨a1, a4⟩
      · refine leave v 0 (by omega) (by omega) a4 (by omega) fun C' c1 c2 c3 => ?_
        have hW : WgAt ty Wg C'.w (v * KK) 0 := by rw [c2]; simpa using a4.setSt (v * KK + (0 : Nat))
        unfold Grp
        rw [c1]
        simp only [c3, hs0]
        rcases a3 with rfl | rfl
        · exact ⟨fun j => by rw [← c3]; exact hNu C' c3 j, hW, by omega⟩
        · exact ⟨fun j => by rw [← c3]; exact hNu C' c3 j, hW, by omega⟩
      · subst a1
        refine leave (v + 1) 0 (by omega) (by omega) a4 (by omega) fun C' c1 c2 c3 => ?_
        have hW : WgAt ty Wg C'.w ((v + 1) * KK) 0 := by rw [c2]; simpa using a4.setSt (((v + 1 : Nat) : Int) * KK + (0 : Nat))
        unfold Grp
        rw [c1]
        simp only [c3, hs0]
        exact ⟨fun j => by rw [← c3]; exact hNu C' c3 j, hW⟩
      · subst a1
        by_cases hv0 : v = 0
        · -- the last, and the starter sleeps
          subst hv0
          obtain ⟨s1, s2, _⟩ := h3 C.w hRn hIv 0 1 (by omega) (by omega) a4
          have s4 := h4 C.w hRn hIv 0 1 ⟨rfl, rfl⟩ a4
          refine grp_step h hi hx hge s1 (hTurn _) (T' := f (C.w, undef, .none, 0, 1)) (by rw [hFi]; exact Tr.lt_node f _) (e' := .laid p) (p' := some .n2) (deafSafe e hd1 (hsz _) hev) (fun c _ => absurd c (hno1 a4)) (fun C' c1 c2 c3 => ?_) (fun J' hJ' C' c1 c2 c3 c4 c5 c6 c7 => ?_)
          · have hs1 : sumTo C.gs.size (fun j => busy (upd C.ph i (some .n2) j)) = 0 := by
              have := hsum (some .n2)
              simp only [show busy (some WPh.n2) = 0 from rfl] at this
              omega
            unfold Grp
            rw [c1]
            simp only [c3, hs1]
            refine .inr (.inr ⟨trivial, i, fun j hj => by rw [upd_ne _ _ hj]; exact hN j, .inl ⟨.inl (upd_same _ _ _), ?_⟩⟩)
            rw [c2]
            have := a4.setSt (((0 : Nat) : Int) * KK + (1 : Nat))
            simpa using this
          · obtain rfl := Option.some.inj (hJ.symm.trans hJ')
            refine ⟨_, c1, .inr ⟨p, c6, by rw [c3]; exact hrel.app _, ?_, .inl ⟨.n2, c7, id, ?_, ?_⟩⟩⟩
            · rw [c5, c2]
              exact hJst _ _ _ _ hj ((hTurn _).mono fun l hl c => h.safe.nosy i l c (h.sy l hl))
            · rw [c3, hdq, hd]; rfl
            · rw [c2, c4]; exact s4
        · refine leave v 1 (by omega) (by omega) a4 (by omega) fun C' c1 c2 c3 => ?_
          have hW : WgAt ty Wg C'.w (v * KK + 1) 0 := by rw [c2]; simpa using a4.setSt (v * KK + (1 : Nat))
          unfold Grp
          rw [c1]
          simp only [c3, hs0]
          exact .inl ⟨by omega, fun j => by rw [← c3]; exact hNu C' c3 j, hW⟩
    | @d2 f _ _ nx h2 h3 h4 =>
      have hW : st = .slept ∧ sumTo C.gs.size (fun j => busy (C.ph j)) = 0 ∧ (∀ j, j ≠ i → ¬ isN (C.ph j)) ∧ WgAt ty Wg C.w 1 0 := by
        have hn : isN (C.ph i) := by rw [hp]; trivial
        unfold Grp at hGr
        cases st with
        | slept =>
          rcases hGr with ⟨_, c, _⟩ | ⟨_, c, _⟩ | ⟨c0, i', c1, c2⟩
          · exact absurd hn (c i)
          · exact absurd hn (c i)
          · have ei : i = i' := Classical.byContradiction fun c => c1 i c hn
            subst ei
            rcases c2 with ⟨_, c2⟩ | ⟨c2, _⟩
            · exact ⟨rfl, c0, c1, c2⟩
            · rw [hp] at c2; cases c2
        | woken => exact absurd hn (hGr.2.1 i)
        | thru => exact absurd hn (hGr.2.1 i)
        | _ => exact absurd hn (hGr.1 i)
      obtain ⟨a1, a2, a3, a4⟩ := hW
      subst a1
      obtain ⟨s1, s2⟩ := h3 C.w hRn a4
      have hev : ∀ ev ∈ (#[rd (stA Wg)] : Array Event), ∃ off wrt, ev = ⟨.cell ⟨Wg, off, none⟩, wrt, true⟩ := fun ev hev => by
        simp at hev; exact ⟨0, false, hev⟩
      refine grp_step h hi hx hge s1 (Turn.refl _ _) (T' := f (ix C.w)) (by rw [hFi]; exact Tr.lt_node f _) (e' := .laid p) (p' := some .n3) (deafSafe e (by rw [hd]; decide) rfl hev) (fun a b => absurd a b) (fun C' c1 c2 c3 => ?_) (fun J' hJ' C' c1 c2 c3 c4 c5 c6 c7 => ?_)
      · have hs1 : sumTo C.gs.size (fun j => busy (upd C.ph i (some .n3) j)) = 0 := by
          have := sum_upd (i := i) C.ph (some .n3) his
          simp only [hp, show busy (some WPh.n2) = 0 from rfl, show busy (some WPh.n3) = 0 from rfl] at this
          omega
        unfold Grp
        rw [c1]
        simp only [c3, hs1]
        exact .inr (.inr ⟨trivial, i, fun j hj => by rw [upd_ne _ _ hj]; exact a3 j hj, .inl ⟨.inr (upd_same _ _ _), by rw [c2]; exact a4⟩⟩)
      · obtain rfl := Option.some.inj (hJ.symm.trans hJ')
        refine ⟨_, c1, .inr ⟨p, c6, by rw [c3]; exact hrel.app _, by rw [c5, c2]; exact hj, .inl ⟨.n3, c7, id, ?_, ?_⟩⟩⟩
        · rw [c3, deaf_own_still fun ev he => by obtain ⟨off, wrt, rfl⟩ := hev ev he; simp]; rw [hd]; rfl
        · rw [c2, c4]; exact h4 C.w hRn a4
    | @d3 f _ _ nx h2 h3 h4 =>
      have hW : st = .slept ∧ sumTo C.gs.size (fun j => busy (C.ph j)) = 0 ∧ (∀ j, j ≠ i → ¬ isN (C.ph j)) ∧ WgAt ty Wg C.w 1 0 := by
        have hn : isN (C.ph i) := by rw [hp]; trivial
        unfold Grp at hGr
        cases st with
        | slept =>
          rcases hGr with ⟨_, c, _⟩ | ⟨_, c, _⟩ | ⟨c0, i', c1, c2⟩
          · exact absurd hn (c i)
          · exact absurd hn (c i)
          · have ei : i = i' := Classical.byContradiction fun c => c1 i c hn
            subst ei
            rcases c2 with ⟨_, c2⟩ | ⟨c2, _⟩
            · exact ⟨rfl, c0, c1, c2⟩
            · rw [hp] at c2; cases c2
        | woken => exact absurd hn (hGr.2.1 i)
        | thru => exact absurd hn (hGr.2.1 i)
        | _ => exact absurd hn (hGr.1 i)
      obtain ⟨a1, a2, a3, a4⟩ := hW
      subst a1
      obtain ⟨s1, s2⟩ := h3 C.w hRn a4
      have hev : ∀ ev ∈ (#[wr (stA Wg)] : Array Event), ∃ off wrt, ev = ⟨.cell ⟨Wg, off, none⟩, wrt, true⟩ := fun ev hev => by
        simp at hev; exact ⟨0, true, hev⟩
      have hTurn : Turn (ShN Wg) C.w (C.w.setCell (stA Wg) (.int .u64 0)) := Turn.setCell _ _ _ ⟨_, rfl, rfl⟩
      refine grp_step h hi hx hge s1 hTurn (T' := f (ix C.w)) (by rw [hFi]; exact Tr.lt_node f _) (e' := .laid p) (p' := some .n4) (deafSafe e (by rw [hd]; decide) (by simp [World.setCell]) hev) (fun c _ => by
          have := (Go.ConcR.WgAt.unique (a4.setSt 0) c).2
          omega) (fun C' c1 c2 c3 => ?_) (fun J' hJ' C' c1 c2 c3 c4 c5 c6 c7 => ?_)
      · have hs1 : sumTo C.gs.size (fun j => busy (upd C.ph i (some .n4) j)) = 0 := by
          have := sum_upd (i := i) C.ph (some .n4) his
          simp only [hp, show busy (some WPh.n3) = 0 from rfl, show busy (some WPh.n4) = 0 from rfl] at this
          omega
        unfold Grp
        rw [c1]
        simp only [c3, hs1]
        exact .inr (.inr ⟨trivial, i, fun j hj => by rw [upd_ne _ _ hj]; exact a3 j hj, .inr ⟨upd_same _ _ _, by rw [c2]; exact a4.setSt 0⟩⟩)
      · obtain rfl := Option.some.inj (hJ.symm.trans hJ')
        refine ⟨_, c1, .inr ⟨p, c6, by rw [c3]; exact hrel.app _, ?_, .inl ⟨.n4, c7, id, ?_, ?_⟩⟩⟩
        · rw [c5, c2]
          exact hJst _ _ _ _ hj (hTurn.mono fun l hl c => h.safe.nosy i l c (h.sy l hl))
        · rw [c3, deaf_own_still fun ev he => by obtain ⟨off, wrt, rfl⟩ := hev ev he; simp]; rw [hd]; rfl
        · rw [c2, c4]; exact h4 C.w hRn a4
    | @d4 f _ _ nx h2 hmw h3 =>
      have hW : st = .slept ∧ sumTo C.gs.size (fun j => busy (C.ph j)) = 0 ∧ (∀ j, j ≠ i → ¬ isN (C.ph j)) ∧ WgAt ty Wg C.w 0 0 := by
        have hn : isN (C.ph i) := by rw [hp]; trivial
        unfold Grp at hGr
        cases st with
        | slept =>
          rcases hGr with ⟨_, c, _⟩ | ⟨_, c, _⟩ | ⟨c0, i', c1, c2⟩
          · exact absurd hn (c i)
          · exact absurd hn (c i)
          · have ei : i = i' := Classical.byContradiction fun c => c1 i c hn
            subst ei
            rcases c2 with ⟨c2 | c2, _⟩ | ⟨_, c2⟩
            · rw [hp] at c2; cases c2
            · rw [hp] at c2; cases c2
            · exact ⟨rfl, c0, c1, c2⟩
        | woken => exact absurd hn (hGr.2.1 i)
        | thru => exact absurd hn (hGr.2.1 i)
        | _ => exact absurd hn (hGr.1 i)
      obtain ⟨a1, a2, a3, a4⟩ := hW
      subst a1
      obtain ⟨s1, q, hq, hfq⟩ := h3 C.w hRn a4
      have hTurn : Turn (ShN Wg) C.w (C.w.setCell (smA Wg) (.int .u32 1)) := Turn.setCell _ _ _ ⟨_, rfl, rfl⟩
      have hst' := hq.status
      refine grp_step h hi hx hge s1 hTurn (T' := f (ix C.w)) (by rw [hFi]; exact Tr.lt_node f _) (e' := .laid p) (p' := none) ?_ (fun c _ => ⟨hmw, by rcases hst' with c | c <;> rw [c] <;> simp, by rcases hst' with c | c <;> rw [c] <;> simp⟩) (fun C' c1 c2 c3 => ?_) (fun J' hJ' C' c1 c2 c3 c4 c5 c6 c7 => ?_)
      · rw [upd_eq e, show (C.w.setCell (smA Wg) (.int .u32 1)).heap.size = C.w.heap.size by simp [World.setCell]]
        exact sem_safe h.safe (hcell 1) hlt
      · have hs1 : sumTo C.gs.size (fun j => busy (upd C.ph i none j)) = 0 := by
          have := sum_upd (i := i) C.ph none his
          simp only [hp, show busy (some WPh.n4) = 0 from rfl, show busy none = 0 from rfl] at this
          omega
        unfold Grp
        rw [c1]
        simp only [c3, hs1]
        refine .inr (.inl ⟨trivial, fun j => ?_, by rw [c2]; exact a4.setSm 1⟩)
        by_cases ej : j = i
        · subst ej; rw [upd_same]; exact id
        · rw [upd_ne _ _ ej]; exact a3 j ej
      · obtain rfl := Option.some.inj (hJ.symm.trans hJ')
        refine ⟨_, c1, .inr ⟨p, c6, by rw [c3]; exact hrel.app _, ?_, .inr ⟨c7, q, ?_, c4.trans hfq⟩⟩⟩
        · rw [c5, c2]
          exact hJst _ _ _ _ hj (hTurn.mono fun l hl c => h.safe.nosy i l c (h.sy l hl))
        · rw [c3, Deaf_own, hd]; exact hq
    | rel nx h2 h3 h4 => exact absurd trivial hnl
    | send n2 ne h2 h3 h4 => exact absurd trivial hnl
    | close nx h1 h2 h3 h4 => exact absurd trivial hnl
  · exact leaver_step h hi hx hr hq hf hp
end
end Cr
end
