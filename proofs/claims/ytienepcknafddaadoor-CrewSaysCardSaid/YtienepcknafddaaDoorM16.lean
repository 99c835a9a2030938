/- PLAIN LAW of the model: a goroutine that sends over a channel of its own, and closes it, takes a step (no program text in sight). -/
import Derived.Test.YtienepcknafddaaDoorM15
set_option linter.unusedVariables false
set_option linter.unusedSimpArgs false
section
namespace Cr
open Go Go.Conc
open Go.ConcR (KK WgAt stA smA rd wr mk)
open Go.ConcN (WgLive ShN sumTo upd upd_same upd_ne sumTo_upd sumTo_congr)
section
variable {P : Program} {ty : TypeId} {Post : Value → World → Prop} {C C' : Cf} {i : Nat} {Tm : Tr Ix} {d k : Nat} {Sy : Loc → Prop} {g g0 x x' : Goroutine} {sl : Option (Nat × Nat)} {cs : List Ch}
theorem new_self (r : Rts) (n : Nat) : r.new n n = r := by
  have e : ∀ l, ¬ New n n l := fun l h => h.2.1 h.2.2
  unfold Rts.new
  obtain ⟨a, b⟩ := r
  simp only [Rts.mk.injEq]
  exact ⟨funext fun l => propext ⟨fun h => h.resolve_right (e l), .inl⟩, funext fun l => propext ⟨fun h => h.resolve_right (e l), .inl⟩⟩
/-- the trace behind what a step lists that turns nothing -/
theorem list_safe {S : Loc → Prop} {main : Bool} (hs : Safe Sy C.R C.E C.w.heap.size C.t) (hE : C.E i = .live) (hS : ∀ l, S l → Sy l) (hm : main = true → i = 0) {es : Array Event} (hg : ∀ e ∈ es, EvOk (C.R i) S main C.w.heap.size C.w.heap.size e) (fn : FuncId) (pos : String) :
    Safe Sy C.R C.E C.w.heap.size (C.t ++ MemOp.ofEvents i fn pos es) := by
  have := guar_safe hs hE hS hm (w' := C.w) ⟨Turn.refl _ _, hg⟩ fn pos
  rw [new_self, upd_eq rfl] at this
  exact this
theorem parts_nil (h : Fm P ty Post C Tm (.chs cs) d k Sy g g0) {c : Nat} (hn : offersAt g0 c false = []) : partners (C.gs.setIfInBounds i ph) c false = [] := by
  refine partners_nil fun j y hj => ?_
  rcases getElem?_stand _ _ _ _ hj with ⟨_, rfl⟩ | ⟨hne, hj⟩
  · exact offersAt_ph _ _
  · rcases Nat.eq_zero_or_pos j with rfl | hpos
    · obtain rfl := Option.some.inj (hj.symm.trans h.at0)
      exact hn
    · obtain ⟨z, hz, hu⟩ := h.up hpos (Array.getElem?_eq_some_iff.1 hj).1
      obtain rfl := Option.some.inj (hj.symm.trans hz)
      exact offersAt_of_not_blocked (by rcases hu with c | c <;> rw [c] <;> simp) _ _
theorem parts_nil' (h : Fm P ty Post C Tm (.chs cs) d k Sy g g0) {c : Nat} : partners (C.gs.setIfInBounds 0 ph) c true = [] := by
  refine partners_nil fun j y hj => ?_
  rcases getElem?_stand _ _ _ _ hj with ⟨_, rfl⟩ | ⟨hne, hj⟩
  · exact offersAt_ph _ _
  · obtain ⟨z, hz, hu⟩ := h.up (by omega) (Array.getElem?_eq_some_iff.1 hj).1
    obtain rfl := Option.some.inj (hj.symm.trans hz)
    exact offersAt_of_not_blocked (by rcases hu with c | c <;> rw [c] <;> simp) _ _
theorem Deaf_calm {t u : Trace} {g : Nat} (hu : ∀ op ∈ u, op.act ≠ .mark .disable ∧ op.act ≠ .mark .enable) : Deaf (t ++ u) g = Deaf t g :=
  Deaf_quiet fun op hop d => by
    have := hu op hop
    unfold deafStep
    split <;> simp_all
theorem ofEvent_calm {e : Event} (h1 : e.loc ≠ .mark .disable) (h2 : e.loc ≠ .mark .enable) : MemAct.ofEvent e ≠ .mark .disable ∧ MemAct.ofEvent e ≠ .mark .enable := by
  obtain ⟨loc, wrt, sy⟩ := e
  cases loc with
  | obj r => cases wrt <;> cases sy <;> simp [MemAct.ofEvent]
  | mark m => constructor <;> (intro c; simp only [MemAct.ofEvent, MemAct.mark.injEq] at c; subst c; simp at h1 h2)
  | _ => simp [MemAct.ofEvent]
def AtC (c : Nat) (l : Loc) : Prop := l = .cell ⟨c, 0, none⟩
theorem send_low {n : Nat} {c : Nat} (hc : c < n) (s : Nat) : (MemAct.send c s).low n ∧ (MemAct.sendDone c s).low n ∧ (MemAct.recvDone c s).low n := ⟨hc, hc, hc⟩
/-- A GOROUTINE OVER ITS CHANNEL TAKES A STEP -/
theorem oneG_step (h : Fm P ty Post C Tm (.chs cs) d k Sy g g0) (hi : 1 ≤ i) (hx : C.gs[i]? = some x) (hr : x.status = .running) (hge : C.gs.size - cs.length ≤ i) {ch : Ch} (hch : cs[i - (C.gs.size - cs.length)]? = some ch) : Next P ty Post C Tm k sl i := by
  have his := (Array.getElem?_eq_some_iff.1 hx).1
  have hact := h.act
  have hlen := h.len
  simp only [Sg.len] at hlen
  have hib : (i == 0) = false := by simp; omega
  obtain ⟨hJst, ho, hlock⟩ := hact.1 _ ch hch
  have hdist := hact.2
  rw [show C.gs.size - cs.length + (i - (C.gs.size - cs.length)) = i by omega] at ho
  have hcl : ch.c < C.w.heap.size := by
    obtain ⟨o, ho, _⟩ := ho.chan
    exact (Array.getElem?_eq_some_iff.1 ho).1
  have hcm : IsChan C.w.heap[ch.c]? := by
    obtain ⟨o, ho, hc⟩ := ho.chan
    rw [ho]; exact hc
  have hTurn : ∀ cap buf cl s r tm, Turn (AtC ch.c) C.w (C.w.setChan ch.c cap buf cl s r tm) := fun cap buf cl s r tm => by
    obtain ⟨o, ho, hc⟩ := ho.chan
    exact Turn.setChan _ ho hc _ _ _ _ _ _ rfl
  have hRl : ∀ j w', Turn (AtC ch.c) C.w w' → Rely (C.R j) C.w w' := fun j w' ht => ht.mono fun l hl c => by
    rw [hl] at c; exact hlock j c
  have hother : ∀ (m : Nat) (ch' : Ch), cs[m]? = some ch' → C.gs.size - cs.length + m ≠ i → ch.c ≠ ch'.c := fun m ch' hm hne e => hne (by
    have := hdist _ _ _ _ hch hm e
    omega)
  have hsz : ∀ cap buf cl s r tm, (C.w.setChan ch.c cap buf cl s r tm).heap.size = C.w.heap.size := fun _ _ _ _ _ _ => by simp [World.setChan]
  obtain ⟨y, h1, h2⟩ := ho
  obtain rfl := Option.some.inj (hx.symm.trans h1)
  have hRr : Rely (C.R i) C.w C.w := Rely.refl _ _
  rcases h2 with ⟨hE, hp, hd, hgot, hchan, hw⟩ | ⟨v, hE, hp, hd, hw, hcs⟩ | ⟨p, v, hE, hp, hcl', hj, ⟨q, hq, hf⟩, hcs⟩
  · generalize hFi : C.F i = T at hw
    generalize hph : WPh.open_ = c at hw
    generalize hRi : C.R i = ri at hw
    cases hw with
    | @silent f _ _ _ _ nx nw ne hl h2 h3 h4 =>
      subst hph
      subst hRi
      obtain ⟨s1, s2, s3⟩ := h3 C.w hRr trivial
      refine own_step h hi hx hE hge s1 s2 (T' := f (ix C.w)) (by rw [hFi]; exact Tr.lt_node f _) (fun _ _ _ c => by cases c) ?_
      intro cs' eσ ch' hch' _ C' c1 c2 c3 c4 c5 c6 c7
      simp only [Sg.chs.injEq] at eσ
      subst eσ
      obtain rfl := Option.some.inj (hch.symm.trans hch')
      refine ⟨_, c1, .inl ⟨c6.trans hE, c7.trans hp, ?_, hgot, ?_, ?_⟩⟩
      · rw [c3, deaf_own_still fun ev hev => ⟨(s2.evs ev hev).2.1, (s2.evs ev hev).2.2.1⟩]; exact hd
      · rw [c2, h.chStand rfl s2.turn hch]; exact hchan
      · rw [c2, c4, c5]; exact h4 C.w hRr trivial
    | idle nx hl => subst hph; exact absurd trivial hl
    | @send f _ _ _ v z' n2 ne h2 h3 h4 =>
      subst hRi
      obtain ⟨s1, s2⟩ := h3 C.w hRr trivial
      have s3 := h4 C.w hRr trivial
      have s1' : stepG P (i == 0) x C.w = .comm (n2 C.w) #[scase ch.c v z'] true .send C.w (ne C.w) := by rw [hib]; exact s1
      have hls := list_safe h.safe hE (fun _ c => c.elim) (fun c => by cases c) s2 x.frame.fn x.frame.place
      have hdeaf : ∀ u : Array MemOp, (∀ op ∈ u, op.act ≠ .mark .disable ∧ op.act ≠ .mark .enable) → Deaf (C.t ++ (MemOp.ofEvents i x.frame.fn x.frame.place (ne C.w) ++ u)) i = 0 := fun u hu => by
        rw [← Array.append_assoc, Deaf_calm hu, deaf_own_still fun ev hev => ⟨(s2 ev hev).2.1, (s2 ev hev).2.2.1⟩]; exact hd
      by_cases hpart : ∃ z, g0 = parked g #[rcase ch.c z] (.recv true)
      · -- the starter waits at that channel
        rcases h.st with ⟨e, hk⟩ | ⟨_, _, e, _⟩ | ⟨ch', cs', z, e, hs, ⟨e0, hk, cap, s, r, tm, hc⟩ | ⟨e0, hk⟩⟩
        · obtain ⟨z, hz⟩ := hpart
          have := h.run.running
          rw [← e, hz] at this
          cases this
        · cases e
        · obtain ⟨z1, hz1⟩ := hpart
          have ec : ch'.c = ch.c := by
            have := e0.symm.trans hz1
            simp only [parked, Goroutine.mk.injEq, Option.some.injEq, Prod.mk.injEq, Array.mk.injEq, List.cons.injEq, rcase, CommCase.mk.injEq, Value.chan.injEq] at this
            exact this.2.2.2.2.1.1.1
          simp only [Sg.chs.injEq] at e
          subst e
          have hidx := hdist 0 _ _ _ rfl hch ec
          have e1 : ch' = ch := by
            rw [← hidx] at hch
            exact Option.some.inj hch
          subst e1
          have hib0 : i = C.gs.size - (ch' :: cs').length := by omega
          obtain ⟨c0, J, got⟩ := ch'
          simp only at hgot hchan hcl hTurn hRl hother hsz hlock hJst s1 s1' s3 hs e0
          subst hgot
          -- the starter's walk
          have hrun := h.run
          have hrl0 := hRl 0 _ (hTurn 1 #[] false 1 1 false)
          have hmr : ∃ T'', Tr.Lt T'' Tm ∧ d = 0 ∧ MRun P ty Post T'' (.chs (⟨c0, J, some v⟩ :: cs')) 0 (C.R 0) (served g (.tuple #[v, .bool true])) (C.w.setChan c0 1 #[] false 1 1 false) := by
            obtain ⟨es0, hs0⟩ := hs C.w (Rely.refl _ _)
            generalize hσ : Sg.chs (⟨c0, J, none⟩ :: cs') = σ at hrun
            generalize hR0 : C.R 0 = r0 at hrun hs0
            cases hrun with
            | @recv f' _ _ _ _ _ _ z2 ne2 a1 a2 a3 =>
              simp only [Sg.chs.injEq, List.cons.injEq, Ch.mk.injEq] at hσ
              obtain ⟨⟨rfl, rfl, _⟩, rfl⟩ := hσ
              exact ⟨_, Tr.lt_node f' (C.w.setChan c0 1 #[] false 1 1 false, v, .none, 0, 0), rfl, a3 _ (by rw [← hR0]; exact hrl0) v (s3.heard rfl)⟩
            | hear ne2 a1 a2 a3 a4 => simp at hσ
            | silent nx nw ne' a1 a2 a3 =>
              subst hσ
              have := (a2 C.w (Rely.refl _ _) trivial).1
              rw [hs0] at this; cases this
            | dis nx a1 a2 a3 =>
              subst hσ
              have := a2 C.w (Rely.refl _ _) trivial
              rw [hs0] at this; cases this
            | en nx a1 a2 a3 =>
              subst hσ
              have := a2 C.w (Rely.refl _ _) trivial
              rw [hs0] at this; cases this
            | spawnG c J nx chd r' rc a1 a2 a3 a4 =>
              have := (a3 C.w (Rely.refl _ _)).1
              rw [hs0] at this; cases this
            | _ => cases hσ
          obtain ⟨T'', hlt, hd', hm'⟩ := hmr
          subst hd'
          have hp1 : partners (C.gs.setIfInBounds i ph) c0 false = [(0, 0)] := by
            rw [partners_one (g := g0) (stand_get (by omega) h.at0) fun j y hne hj => ?_, e0, offersAt_parked_recv, if_pos rfl]; rfl
            rcases getElem?_stand _ _ _ _ hj with ⟨_, rfl⟩ | ⟨_, hj⟩
            · exact offersAt_ph _ _
            · obtain ⟨z, hz, hu⟩ := h.up (by omega) (Array.getElem?_eq_some_iff.1 hj).1
              obtain rfl := Option.some.inj (hj.symm.trans hz)
              exact offersAt_of_not_blocked (by rcases hu with c | c <;> rw [c] <;> simp) _ _
          have hrun' := crowd_send_meets (P := P) (gs := C.gs) (w := C.w) (sl := sl) (i := i) (j := 0) (gj := g) (shj := .recv true) hx s1' hchan (by omega) (by rw [h.at0, e0]) hp1
          rw [finishComm_send, finishComm_recv, show recvd true v true = .tuple #[v, .bool true] from rfl] at hrun'
          have hops : ∀ op ∈ (#[{ g := i, fn := (n2 C.w).frame.fn, pos := (n2 C.w).frame.place, act := .send c0 0 }, { g := 0, fn := g.frame.fn, pos := g.frame.place, act := .recv c0 0 1 }, { g := i, fn := (n2 C.w).frame.fn, pos := (n2 C.w).frame.place, act := .sendDone c0 0 }, { g := 0, fn := g.frame.fn, pos := g.frame.place, act := .recvDone c0 0 }] : Array MemOp),
              (op.g = i ∨ op.g = 0) ∧ op.act.touch? = none ∧ op.act.low C.w.heap.size ∧ (∀ a, op.act ≠ .mark (.release a)) ∧ op.act ≠ .mark .disable ∧ op.act ≠ .mark .enable := by
            intro op hop
            simp only [List.mem_toArray, List.mem_cons, List.not_mem_nil, or_false] at hop
            rcases hop with rfl | rfl | rfl | rfl <;> exact ⟨by simp, rfl, hcl, by simp, by simp, by simp⟩
          refine ⟨⟨(C.gs.setIfInBounds 0 (served g (.tuple #[v, .bool true]))).setIfInBounds i (served (n2 C.w) undef), C.w.setChan c0 1 #[] false (0 + 1) (0 + 1) false, _, upd C.F i (f (ix C.w)), C.R, C.E, upd C.ph i (some (.sent v))⟩, _, T'', .chs (⟨c0, J, some v⟩ :: cs'), 0, 1, Sy, served g (.tuple #[v, .bool true]), served g (.tuple #[v, .bool true]), hrun', rfl, ?_, .inl hlt⟩
          have hs0 : 0 < C.gs.size := by omega
          refine h.build hi his (x' := served (n2 C.w) undef) (by simp) (by simp [his]) (fun j hj hne => by simp [Array.getElem?_setIfInBounds_ne (Ne.symm hne), Array.getElem?_setIfInBounds_ne (show 0 ≠ j by omega)]) (fun j hj => ⟨hRl j _ (hTurn _ _ _ _ _ _), rfl, rfl, upd_ne _ _ hj, upd_ne _ _ hj⟩) ⟨_, rfl, fun op hop => ?_⟩ ?_ ?_ (by show ((C.gs.setIfInBounds 0 _).setIfInBounds i _)[0]? = _; rw [Array.getElem?_setIfInBounds_ne (by omega), Array.getElem?_setIfInBounds_self_of_lt hs0]) hm' (.inl ⟨rfl, rfl⟩) rfl (fun _ c => c.elim) (fun hl => absurd hge (by simp only [Sg.len] at hl; omega)) (fun hstay => ?_)
          · rcases Array.mem_append.1 hop with c | c
            · exact .inl (ops_g op c)
            · exact (hops op c).1
          · show Deaf (C.t ++ (_ ++ _)) 0 = 0
            rw [← Array.append_assoc, Deaf_calm fun op hop => (hops op hop).2.2.2.2, Deaf_not fun op hop => by rw [ops_g op hop]; omega]
            exact h.d0
          · show Safe Sy C.R C.E _ (C.t ++ (_ ++ _))
            rw [hsz, ← Array.append_assoc]
            exact hls.mute (fun op hop => (hops op hop).2.2.1) (fun op hop => (hops op hop).2.2.2.1) fun op hop => (hops op hop).2.1
          · refine ⟨fun m ch2 hm => ?_, fun m m' c1 c2 hc1 hc2 e => ?_⟩
            · cases m with
              | zero =>
                simp only [List.getElem?_cons_zero, Option.some.injEq] at hm
                subst hm
                refine ⟨hJst, ?_, hlock⟩
                have e9 : (C.gs.size - (cs'.length + 1) + 0) = i := by simp only [List.length_cons] at hib0; omega
                simp only [Array.size_setIfInBounds, List.length_cons]
                rw [e9]
                refine ⟨served (n2 C.w) undef, by simp [his], .inr (.inl ⟨v, hE, upd_same _ _ _, ?_, ?_, .inr ⟨rfl, setChan_get hcl _ _ _ _ _ _⟩⟩)⟩
                · exact hdeaf _ fun op hop => (hops op hop).2.2.2.2
                · simp only [upd_same]
                  exact s3.rely (hRl i _ (hTurn _ _ _ _ _ _))
              | succ m =>
                simp only [List.getElem?_cons_succ] at hm
                obtain ⟨q1, q2, q3⟩ := hact.1 (m + 1) ch2 (by simpa using hm)
                refine ⟨q1, ?_, q3⟩
                simp only [Array.size_setIfInBounds, List.length_cons] at q2 ⊢
                have hne : C.gs.size - (cs'.length + 1) + (m + 1) ≠ i := by simp only [List.length_cons] at hib0; omega
                refine q2.stay q1 (hstay _ (by omega) hne) (setChan_ne (hother (m + 1) ch2 (by simpa using hm) (by simpa using hne)) _ _ _ _ _ _)
            · refine hdist m m' (match m with | 0 => ⟨c0, J, none⟩ | _ + 1 => c1) (match m' with | 0 => ⟨c0, J, none⟩ | _ + 1 => c2) ?_ ?_ ?_
              · cases m with
                | zero => rfl
                | succ m => simpa using hc1
              · cases m' with
                | zero => rfl
                | succ m => simpa using hc2
              · cases m with
                | zero =>
                  simp only [List.getElem?_cons_zero, Option.some.injEq] at hc1
                  subst hc1
                  cases m' with
                  | zero => rfl
                  | succ m' => exact e
                | succ m =>
                  cases m' with
                  | zero =>
                    simp only [List.getElem?_cons_zero, Option.some.injEq] at hc2
                    subst hc2; exact e
                  | succ m' => exact e
        · obtain ⟨z1, hz1⟩ := hpart
          rw [e0] at hz1
          simp only [parked, Goroutine.mk.injEq] at hz1
          cases hz1.2.2.1
      · have hnp : offersAt g0 ch.c false = [] := by
          rcases h.st with ⟨e, hk⟩ | ⟨_, _, e, _⟩ | ⟨ch', cs', z, e, hs, ⟨e0, hk, _⟩ | ⟨e0, hk⟩⟩
          · exact offersAt_of_not_blocked (by rw [e, h.run.running]; simp) _ _
          · cases e
          · rw [e0, offersAt_parked_recv]
            by_cases ec : ch'.c = ch.c
            · rw [ec] at e0; exact absurd ⟨z, e0⟩ hpart
            · rw [if_neg ec]
          · exact offersAt_of_not_blocked (by rw [e0]; simp) _ _
        have hrun' := crowd_send_room (P := P) (sl := sl) hx s1' hchan (by decide) (parts_nil h hnp)
        rw [finishComm_send] at hrun'
        refine ⟨⟨C.gs.setIfInBounds i (served (n2 C.w) undef), C.w.setChan ch.c 1 (#[].push v) false (0 + 1) 0 false, _, upd C.F i (f (ix C.w)), C.R, C.E, upd C.ph i (some (.sent v))⟩, _, Tm, .chs cs, d, k, Sy, g, g0, hrun', rfl, ?_, .inr (.inl ⟨rfl, by simp, ?_⟩)⟩
        · refine h.build hi his (x' := served (n2 C.w) undef) (by simp) (by simp [his]) (fun j hj hne => by simp [Array.getElem?_setIfInBounds_ne (Ne.symm hne)]) (fun j hj => ⟨hRl j _ (hTurn _ _ _ _ _ _), rfl, rfl, upd_ne _ _ hj, upd_ne _ _ hj⟩) ⟨_, rfl, fun op hop => ?_⟩ ?_ ?_ (by simp [Array.getElem?_setIfInBounds_ne (show i ≠ 0 by omega)]; exact h.at0) (h.run.rely (hRl 0 _ (hTurn _ _ _ _ _ _))) ?_ rfl h.sy (fun hl => absurd hge (by simp only [Sg.len] at hl; omega)) ?_
          · rcases Array.mem_append.1 hop with c | c
            · exact .inl (ops_g op c)
            · simp only [List.mem_toArray, List.mem_cons, List.not_mem_nil, or_false] at c
              rcases c with rfl | rfl <;> exact .inl rfl
          · show Deaf (C.t ++ _) 0 = d
            rw [Deaf_not fun op hop => ?_]
            · exact h.d0
            · rcases Array.mem_append.1 hop with c | c
              · rw [ops_g op c]; omega
              · simp only [List.mem_toArray, List.mem_cons, List.not_mem_nil, or_false] at c
                rcases c with rfl | rfl <;> (show i ≠ 0; omega)
          · show Safe Sy C.R C.E _ (C.t ++ (_ ++ _))
            rw [hsz, ← Array.append_assoc]
            refine hls.mute (fun op hop => ?_) (fun op hop => ?_) fun op hop => ?_
            all_goals
              simp only [List.mem_toArray, List.mem_cons, List.not_mem_nil, or_false] at hop
              rcases hop with rfl | rfl
            · exact hcl
            · exact hcl
            · simp
            · simp
            · rfl
            · rfl
          · refine h.st.same (hRl 0 _ (hTurn _ _ _ _ _ _)) (fun _ _ c => by cases c) fun ch' cs' eσ => ?_
            by_cases ec : ch.c = ch'.c
            · exact .inr fun z hz => hpart ⟨z, by rw [ec]; exact hz⟩
            · exact .inl (setChan_ne ec _ _ _ _ _ _)
          · intro hstay
            refine act_chs hact (by simp) hstay hlen (fun _ ch' hch' => ?_) (fun m ch' hm hne => setChan_ne (hother m ch' hm hne) _ _ _ _ _ _) (fun m ch' hm j => (hact.1 m ch' hm).2.2 j)
            obtain rfl := Option.some.inj (hch.symm.trans hch')
            refine ⟨served (n2 C.w) undef, by simp [his], .inr (.inl ⟨v, hE, upd_same _ _ _, ?_, ?_, .inl ⟨hgot, setChan_get hcl _ _ _ _ _ _⟩⟩)⟩
            · refine hdeaf _ fun op hop => ?_
              simp only [List.mem_toArray, List.mem_cons, List.not_mem_nil, or_false] at hop
              rcases hop with rfl | rfl <;> simp
            · simp only [upd_same]
              exact s3.rely (hRl i _ (hTurn _ _ _ _ _ _))
        · simp only [Array.size_setIfInBounds]
          exact bag_upd his (by rw [hFi]; exact Tr.lt_node f _)
    | _ => cases hph
  · generalize hFi : C.F i = T at hw
    generalize hph : WPh.sent v = c at hw
    generalize hRi : C.R i = ri at hw
    cases hw with
    | @silent f _ _ _ _ nx nw ne hl h2 h3 h4 =>
      subst hph
      subst hRi
      obtain ⟨s1, s2, s3⟩ := h3 C.w hRr trivial
      refine own_step h hi hx hE hge s1 s2 (T' := f (ix C.w)) (by rw [hFi]; exact Tr.lt_node f _) (fun _ _ _ c => by cases c) ?_
      intro cs' eσ ch' hch' _ C' c1 c2 c3 c4 c5 c6 c7
      simp only [Sg.chs.injEq] at eσ
      subst eσ
      obtain rfl := Option.some.inj (hch.symm.trans hch')
      refine ⟨_, c1, .inr (.inl ⟨v, c6.trans hE, c7.trans hp, ?_, ?_, ?_⟩)⟩
      · rw [c3, deaf_own_still fun ev hev => ⟨(s2.evs ev hev).2.1, (s2.evs ev hev).2.2.1⟩]; exact hd
      · rw [c2, c4, c5]; exact h4 C.w hRr trivial
      · rw [c2, h.chStand rfl s2.turn hch]; exact hcs
    | idle nx hl => subst hph; exact absurd trivial hl
    | @close f _ _ _ v' nx h2 hmw hobj h4 =>
      simp only [WPh.sent.injEq] at hph
      subst hph
      subst hRi
      obtain ⟨s1, ⟨q, hq, hfq⟩, s3⟩ := h4 C.w hRr trivial
      obtain ⟨buf, sr, hchan, hgot⟩ : ∃ buf sr, C.w.heap[ch.c]? = some (.chan 1 buf false 1 sr false) ∧ ((ch.got = none ∧ buf = #[v] ∧ sr = 0) ∨ (ch.got = some v ∧ buf = #[] ∧ sr = 1)) := by
        rcases hcs with ⟨a, b⟩ | ⟨a, b⟩
        · exact ⟨_, _, b, .inl ⟨a, rfl, rfl⟩⟩
        · exact ⟨_, _, b, .inr ⟨a, rfl, rfl⟩⟩
      have s4 := s3 _ _ _ _ _ hchan
      have hst' := hq.status
      have hops := closeOps i x.frame.fn x.frame.place ch.c
      have hsafe1 : Safe Sy C.R C.E C.w.heap.size (C.t ++ #[{ g := i, fn := x.frame.fn, pos := x.frame.place, act := .access ⟨.obj ch.c, false, true⟩ }]) := by
        have := list_safe (i := i) (es := #[⟨.obj ch.c, false, true⟩]) h.safe hE (S := fun _ => False) (fun _ c => c.elim) (main := false) (fun c => by cases c) (fun e he => by
          simp at he
          subst he
          refine ⟨fun b hb _ => ?_, by simp, by simp, by simp, hcl⟩
          simp only [MemAct.ofEvent, MemAct.touch?, Option.some.injEq] at hb
          subst hb
          exact .inr (.inl ⟨hobj, by simp⟩)) x.frame.fn x.frame.place
        rw [show MemOp.ofEvents i x.frame.fn x.frame.place #[⟨.obj ch.c, false, true⟩] = #[{ g := i, fn := x.frame.fn, pos := x.frame.place, act := .access ⟨.obj ch.c, false, true⟩ }] by simp [MemOp.ofEvents, MemAct.ofEvent]] at this
        exact this
      have hsafe2 := laid_safe (C := { C with t := C.t ++ #[{ g := i, fn := x.frame.fn, pos := x.frame.place, act := .access ⟨.obj ch.c, false, true⟩ }] }) (op := { g := i, fn := x.frame.fn, pos := x.frame.place, act := .close ch.c }) hsafe1 hE rfl hcl (by simp) rfl
      have happ : C.t ++ MemOp.ofEvents i x.frame.fn x.frame.place (closeEvents ch.c) = (C.t ++ #[{ g := i, fn := x.frame.fn, pos := x.frame.place, act := .access ⟨.obj ch.c, false, true⟩ }]) ++ #[{ g := i, fn := x.frame.fn, pos := x.frame.place, act := .close ch.c }] := by
        rw [hops]; apply Array.ext'; simp
      have hsize1 : (C.t ++ #[({ g := i, fn := x.frame.fn, pos := x.frame.place, act := .access ⟨.obj ch.c, false, true⟩ } : MemOp)]).size = C.t.size + 1 := by simp
      simp only [hsize1] at hsafe2
      have hdf : Deaf (C.t ++ MemOp.ofEvents i x.frame.fn x.frame.place (closeEvents ch.c)) i = Deaf C.t i := deaf_own_still fun ev he => by
        simp only [closeEvents, List.mem_toArray, List.mem_cons, List.not_mem_nil, or_false] at he
        rcases he with rfl | rfl <;> simp
      have hcloseAt : CloseAt (C.t ++ MemOp.ofEvents i x.frame.fn x.frame.place (closeEvents ch.c)) (C.t.size + 1) i ch.c := by
        have e0 : (C.t ++ MemOp.ofEvents i x.frame.fn x.frame.place (closeEvents ch.c))[C.t.size + 1]? = some { g := i, fn := x.frame.fn, pos := x.frame.place, act := .close ch.c } := by
          rw [happ, ← hsize1, Array.getElem?_append_right (Nat.le_refl _)]; simp
        refine ⟨_, e0, rfl, rfl, i, by unfold Trace.g?; rw [e0]; rfl, ?_⟩
        rw [deaf_inside _ _ _ _ _ _ (by simp [closeEvents]), hd]
        simp [closeEvents, deafBehind]
      have hrun := run_go (sl := sl) hi hx s4
      obtain ⟨k', g0', hF'⟩ := h.other (C' := ⟨(C.gs.map (woken P x (nx C.w) (C.w.setChan ch.c 1 buf true 1 sr false))).setIfInBounds i (nx C.w), C.w.setChan ch.c 1 buf true 1 sr false, C.t ++ MemOp.ofEvents i x.frame.fn x.frame.place (closeEvents ch.c), upd C.F i (Tr.nat q), C.R, upd C.E i (.laid (C.t.size + 1)), upd C.ph i none⟩) hi hx rfl
        (fun j hj => ⟨hRl j _ (hTurn _ _ _ _ _ _), rfl, upd_ne _ _ hj, upd_ne _ _ hj, upd_ne _ _ hj⟩) ⟨_, rfl, ops_g⟩ (by simp only [hsz]; rw [happ]; exact hsafe2) (fun _ _ c => by cases c)
        (fun ch' cs' eσ => by
          by_cases ec : ch.c = ch'.c
          · refine .inr ⟨hmw, by rcases hst' with c | c <;> rw [c] <;> simp, by rcases hst' with c | c <;> rw [c] <;> simp, 1, buf, 1, sr, false, ?_⟩
            rw [← ec]
            exact setChan_get hcl _ _ _ _ _ _
          · exact .inl (setChan_ne ec _ _ _ _ _ _))
        (fun hl => absurd hge (by simp only [Sg.len] at hl; omega))
        (fun hsz' hself hstay => by
          refine act_chs hact hsz' hstay hlen (fun _ ch' hch' => ?_) (fun m ch' hm hne => setChan_ne (hother m ch' hm hne) _ _ _ _ _ _) (fun m ch' hm j => (hact.1 m ch' hm).2.2 j)
          obtain rfl := Option.some.inj (hch.symm.trans hch')
          refine ⟨_, hself, .inr (.inr ⟨C.t.size + 1, v, upd_same _ _ _, upd_same _ _ _, hcloseAt, hJst _ _ _ _ s1 (hRl i _ (hTurn _ _ _ _ _ _)), ⟨q, ?_, upd_same _ _ _⟩, ?_⟩)⟩
          · rw [hdf, hd]; exact hq
          · rcases hgot with ⟨a, rfl, rfl⟩ | ⟨a, rfl, rfl⟩
            · exact .inl ⟨a, setChan_get hcl _ _ _ _ _ _⟩
            · exact .inr ⟨a, setChan_get hcl _ _ _ _ _ _⟩)
      refine ⟨_, _, Tm, .chs cs, d, k', Sy, g, g0', hrun, rfl, hF', .inr (.inl ⟨rfl, by simp, ?_⟩)⟩
      simp only [Array.size_setIfInBounds, Array.size_map]
      exact bag_upd his (by rw [hFi, ← hfq]; exact Tr.lt_node f _)
    | _ => cases hph
  · exact leaver_step h hi hx hr hq hf hp
end
end Cr
end
