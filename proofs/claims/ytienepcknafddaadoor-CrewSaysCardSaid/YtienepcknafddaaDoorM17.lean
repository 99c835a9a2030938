/- PLAIN LAW of the model: the starter takes a step of its own, or at the group (no program text in sight). · PLAIN LAW of the model: the starter starts a goroutine, takes over what was laid down, comes to its end (no program text in sight). -/
import Derived.Test.YtienepcknafddaaDoorM16
set_option linter.unusedVariables false
set_option linter.unusedSimpArgs false
section
namespace Cr
open Go Go.Conc
open Go.ConcR (KK WgAt stA smA rd wr mk)
open Go.ConcN (WgLive ShN sumTo upd upd_same upd_ne sumTo_upd sumTo_congr)
section
variable {P : Program} {ty : TypeId} {Post : Value → World → Prop} {C C' : Cf} {i : Nat} {Tm : Tr Ix} {σ : Sg} {d k : Nat} {Sy : Loc → Prop} {g g0 x x' : Goroutine} {sl : Option (Nat × Nat)} {Wg : Nat} {js : List Jb} {st : WSt} {cs : List Ch}
theorem act_wg0 {st' : WSt} (h : Act P ty C (.wg Wg js st)) (hs : C'.gs.size = C.gs.size) (hstay : ∀ j, 1 ≤ j → Stay C C' j) (hl : 1 + js.length ≤ C.gs.size) (hG : Grp ty Wg C' st') : Act P ty C' (.wg Wg js st') :=
  ⟨fun k J hk => ⟨(h.1 k J hk).1, by
    rw [hs]
    exact (h.1 k J hk).2.stay (h.1 k J hk).1 (hstay _ (by omega))⟩, hG, h.2.2⟩
theorem act_chs0 (h : Act P ty C (.chs cs)) (hs : C'.gs.size = C.gs.size) (hstay : ∀ j, 1 ≤ j → Stay C C' j) (hl : 1 + cs.length ≤ C.gs.size)
    (hch : ∀ (m : Nat) ch, cs[m]? = some ch → C'.w.heap[ch.c]? = C.w.heap[ch.c]?) (hlock : ∀ (m : Nat) ch, cs[m]? = some ch → ∀ j, ¬ (C'.R j).rd (.cell ⟨ch.c, 0, none⟩)) : Act P ty C' (.chs cs) :=
  ⟨fun k ch hk => ⟨(h.1 k ch hk).1, by
    rw [hs]
    exact (h.1 k ch hk).2.1.stay (h.1 k ch hk).1 (hstay _ (by omega)) (hch k ch hk), hlock k ch hk⟩, h.2⟩
/-- the starter's step -/
theorem main_go (h : Fm P ty Post C Tm σ d k Sy g g) {g' : Goroutine} {w' : World} {es : Array Event} (hs : stepG P true g C.w = .go g' w' es) {T' : Tr Ix} {σ' : Sg} {d' : Nat} {r' : Rts} {Sy' : Loc → Prop} (hlt : Tr.Lt T' Tm) (hrun : MRun P ty Post T' σ' d' r' g' w')
    (hrl : ∀ j, j ≠ 0 → Rely (C.R j) C.w w') (hsafe : Safe Sy' (upd C.R 0 r') C.E w'.heap.size (C.t ++ MemOp.ofEvents 0 g.frame.fn g.frame.place es)) (hd : deafBehind d es = d') (hlen : σ'.len = σ.len) (hsy : ∀ l, σ'.sy l → Sy' l)
    (hact : ∀ C' : Cf, C'.gs.size = C.gs.size → C'.w = w' → C'.ph = C.ph → (∀ j, C'.R j = upd C.R 0 r' j) → (∀ j, 1 ≤ j → Stay C C' j) → Act P ty C' σ') : Next P ty Post C Tm k sl 0 := by
  have h0 := (Array.getElem?_eq_some_iff.1 h.at0).1
  have hr := runT_crowd_go (P := P) (sl := sl) (i := 0) h.at0 (show stepG P (0 == 0) g C.w = _ from hs)
  have hstay : ∀ j, 1 ≤ j → Stay C ⟨(C.gs.map (woken P g g' w')).setIfInBounds 0 g', w', C.t ++ MemOp.ofEvents 0 g.frame.fn g.frame.place es, C.F, upd C.R 0 r', C.E, C.ph⟩ j := fun j hj =>
    ⟨by show ((C.gs.map _).setIfInBounds 0 _)[j]? = _; rw [Array.getElem?_setIfInBounds_ne (by omega), Array.getElem?_map]; exact h.letBe hj _ _ _, hrl j (by omega), ⟨_, rfl, fun op hop => by rw [ops_g op hop]; omega⟩, upd_ne _ _ (by omega), rfl, rfl, rfl⟩
  refine ⟨⟨(C.gs.map (woken P g g' w')).setIfInBounds 0 g', w', C.t ++ MemOp.ofEvents 0 g.frame.fn g.frame.place es, C.F, upd C.R 0 r', C.E, C.ph⟩, _, T', σ', d', 1, Sy', g', g', hr, rfl, ⟨?_, ?_, .inl ⟨rfl, rfl⟩, h.e0, h.p0, ?_, hsafe, hsy, ?_, fun j hj hl => ?_, hact _ (by simp) rfl rfl (fun _ => rfl) hstay, fun j hj => ?_⟩, .inl hlt⟩
  · show ((C.gs.map _).setIfInBounds 0 _)[0]? = _
    rw [Array.getElem?_setIfInBounds_self_of_lt (by simpa using h0)]
  · simp only [upd_same]; exact hrun
  · show Deaf (C.t ++ _) 0 = d'
    rw [Deaf_own, h.d0]; exact hd
  · simp only [Array.size_setIfInBounds, Array.size_map, hlen]; exact h.len
  · simp only [Array.size_setIfInBounds, Array.size_map, hlen] at hl
    exact (h.old j hj hl).stay (hstay j hj)
  · simp only [Array.size_setIfInBounds, Array.size_map] at hj
    exact (h.above j hj).stay (hstay j (by omega))
theorem upd_self (R : Nat → Rts) : upd R 0 (R 0) = R := upd_eq rfl
/-- nobody is busy, none is on his way to wake the starter -/
theorem Fm.calm (h : Fm P ty Post C Tm (.chs []) d k Sy g g0) : ∀ j, C.ph j = none := fun j => by
  rcases Nat.eq_zero_or_pos j with e | e
  · subst e; exact h.p0
  · by_cases c : j < C.gs.size
    · obtain ⟨_, _, _, _, hp, _⟩ := h.old j e (by simpa [Sg.len] using c)
      exact hp
    · exact (h.above j (by omega)).2.2.1
theorem sum_zero {φ : Nat → Nat} (h : ∀ j, φ j = 0) : ∀ n, sumTo n φ = 0 := by
  intro n
  induction n with
  | zero => rfl
  | succ n ih => unfold sumTo; rw [ih, h n]
/-- atomic operations of the starter's on the group -/
theorem at_group (h : Fm P ty Post C Tm (.wg Wg js st) d k Sy g g0) {es : Array Event} (hes : ∀ e ∈ es, ∃ off wrt, e = ⟨.cell ⟨Wg, off, none⟩, wrt, true⟩) (fn : FuncId) (pos : String) : Safe Sy (upd C.R 0 (C.R 0)) C.E C.w.heap.size (C.t ++ MemOp.ofEvents 0 fn pos es) := by
  rw [upd_self]
  refine list_safe (S := ShN Wg) (main := true) h.safe h.e0 (fun l hl => h.sy l hl) (fun _ => rfl) (fun e he => ?_) fn pos
  obtain ⟨off, wrt, rfl⟩ := hes e he
  refine ⟨fun b hb _ => .inl ?_, by simp, by simp, by simp, live_lt h.act.2.1.live⟩
  simp only [MemAct.ofEvent, MemAct.touch?, Option.some.injEq] at hb
  subst hb
  exact ⟨⟨_, rfl, rfl⟩, by simp, by simp⟩
theorem deafB_still {es : Array Event} (h : ∀ e ∈ es, ∃ off wrt, e = ⟨.cell ⟨Wg, off, none⟩, wrt, true⟩) (d : Nat) : deafBehind d es = d := deafBehind_still (fun e he => by obtain ⟨off, wrt, rfl⟩ := h e he; simp) d
theorem setSt_size (w : World) (a : Addr) (v : Value) : (w.setCell a v).heap.size = w.heap.size := by simp [World.setCell]
theorem ev_rd : ∀ e ∈ (#[rd (stA Wg)] : Array Event), ∃ off wrt, e = ⟨.cell ⟨Wg, off, none⟩, wrt, true⟩ := fun e he => by simp at he; exact ⟨0, false, he⟩
theorem ev_rw : ∀ e ∈ (#[rd (stA Wg), wr (stA Wg)] : Array Event), ∃ off wrt, e = ⟨.cell ⟨Wg, off, none⟩, wrt, true⟩ := fun e he => by
  simp at he
  rcases he with rfl | rfl
  · exact ⟨0, false, rfl⟩
  · exact ⟨0, true, rfl⟩
theorem grp_re {st' : WSt} (hs : C'.gs.size = C.gs.size) (hp : C'.ph = C.ph) : (sumTo C'.gs.size fun i => busy (C'.ph i)) = sumTo C.gs.size fun i => busy (C.ph i) := by rw [hs, hp]
/-- THE STARTER's STEPS that start nobody, hear nobody -/
theorem main_small (h : Fm P ty Post C Tm σ d k Sy g g)   : (∃ f nx nw ne, Tm = .node f ∧ stepG P true g C.w = .go nx nw ne ∧ Guar (C.R 0) σ.sy true C.w nw ne ∧ MRun P ty Post (f (ix C.w)) σ d ((C.R 0).new C.w.heap.size nw.heap.size) nx nw) → Next P ty Post C Tm k sl 0 := by
  rintro ⟨f, nx, nw, ne, rfl, s1, s2, s3⟩
  refine main_go h s1 (Tr.lt_node f _) s3 (fun j hj => h.others s2.turn hj) (guar_safe h.safe h.e0 h.sy (fun _ => rfl) s2 _ _) (deafBehind_still (fun e he => ⟨(s2.evs e he).2.1, (s2.evs e he).2.2.1⟩) _) rfl h.sy fun C' c1 c2 c3 c4 c5 => ?_
  have hact := h.act
  have hlen := h.len
  cases σ with
  | chs cs =>
    refine act_chs0 hact c1 c5 hlen (fun m ch hm => by rw [c2]; exact h.chStand rfl s2.turn hm) fun m ch hm j => ?_
    obtain ⟨_, q2, q3⟩ := hact.1 m ch hm
    rw [c4]
    by_cases e : j = 0
    · subst e
      rw [upd_same]
      intro c
      obtain ⟨o, ho, _⟩ := q2.chan
      exact q3 0 (new_low (Array.getElem?_eq_some_iff.1 ho).1 c)
    · rw [upd_ne _ _ e]; exact q3 j
  | wg Wg js st => exact act_wg0 hact c1 c5 hlen (hact.2.1.keep c1 (fun j => by rw [c3]; exact .inl rfl) (by rw [c2]; exact h.wgStand rfl s2.turn))
/-- 'disable' and 'enable' -/
theorem main_mark (h : Fm P ty Post C Tm σ d k Sy g g) {nx : Goroutine} {T' : Tr Ix} {d' : Nat} {m : Mark} (hm : m = .disable ∨ m = .enable) (hs : stepG P true g C.w = .go nx C.w #[mk m]) (hlt : Tr.Lt T' Tm) (hd : deafBehind d #[mk m] = d') (hrun : MRun P ty Post T' σ d' (C.R 0) nx C.w) : Next P ty Post C Tm k sl 0 := by
  refine main_go h hs hlt hrun (fun j _ => Rely.refl _ _) ?_ hd rfl h.sy fun C' c1 c2 c3 c4 c5 => ?_
  · rw [upd_self]
    exact still_events h.safe fun e he => by
      simp at he
      subst he
      rcases hm with rfl | rfl <;> exact ⟨rfl, by simp [mk], trivial⟩
  · have hact := h.act
    have hlen := h.len
    cases σ with
    | chs cs =>
      refine act_chs0 hact c1 c5 hlen (fun m ch hm => by rw [c2]) fun m ch hm j => ?_
      rw [c4, upd_self]; exact (hact.1 m ch hm).2.2 j
    | wg Wg js st => exact act_wg0 hact c1 c5 hlen (hact.2.1.keep c1 (fun j => by rw [c3]; exact .inl rfl) (by rw [c2]))
/-- a group is made -/
theorem main_group (h : Fm P ty Post C Tm (.chs []) 0 k Sy g g) {nx : Goroutine} {nw : World} {ne : Array Event} {T' : Tr Ix} (hs : stepG P true g C.w = .go nx nw ne) (hg : Guar (C.R 0) (fun _ => False) true C.w nw ne) (hlow : ∀ e ∈ ne, (MemAct.ofEvent e).low C.w.heap.size) (hsz : nw.heap.size = C.w.heap.size + 1) (hW : WgAt ty C.w.heap.size nw 0 0)
    (hlt : Tr.Lt T' Tm) (hrun : MRun P ty Post T' (.wg C.w.heap.size [] (.idle 0)) 0 (C.R 0) nx nw) : Next P ty Post C Tm k sl 0 := by
  have h1 : Safe Sy C.R C.E C.w.heap.size (C.t ++ MemOp.ofEvents 0 g.frame.fn g.frame.place ne) := list_safe (S := fun _ => False) (main := true) h.safe h.e0 (fun _ c => c.elim) (fun _ => rfl) (fun e he => ⟨(hg.evs e he).1, (hg.evs e he).2.1, (hg.evs e he).2.2.1, (hg.evs e he).2.2.2.1, hlow e he⟩) _ _
  have h2 := (h1.mono (show C.w.heap.size ≤ C.w.heap.size + 1 by omega)).resync (Sy' := fun l => Sy l ∨ ShN C.w.heap.size l) (fun l hl => by
    rcases hl with hl | ⟨a, rfl, ha⟩
    · exact ⟨h1.smem l hl, Loc.low_mono (by omega) (h1.slow l hl), fun i c => h1.nosy i l c hl, .inl hl⟩
    · refine ⟨rfl, by show a.block < _; omega, fun i c => ?_, .inr fun y b hb e => ?_⟩
      · have : a.block < C.w.heap.size := h1.low i _ c
        omega
      · have := h1.touchLow hb
        rw [e] at this
        have : a.block < C.w.heap.size := this
        omega)
  refine main_go h hs hlt hrun (fun j hj => h.others hg.turn hj) (Sy' := fun l => Sy l ∨ ShN C.w.heap.size l) (by rw [upd_self, hsz]; exact h2) (deafBehind_still (fun e he => ⟨(hg.evs e he).2.1, (hg.evs e he).2.2.1⟩) _) rfl (fun l hl => .inr hl) fun C' c1 c2 c3 c4 c5 => ?_
  refine ⟨fun k J hk => by simp at hk, ?_, by simp⟩
  have hph : ∀ j, C'.ph j = none := fun j => by rw [c3]; exact h.calm j
  have hz : (sumTo C'.gs.size fun i => busy (C'.ph i)) = 0 := sum_zero (fun j => by simp only [hph]; rfl) _
  unfold Grp
  simp only [hz]
  exact ⟨fun j => by rw [hph]; exact id, by rw [c2]; simpa using hW, Nat.le_refl _⟩
/-- THE STARTER AT THE GROUP -/
theorem main_add {n : Nat} (h : Fm P ty Post C Tm (.wg Wg js (.idle n)) d k Sy g g) {f : Ix → Tr Ix} (hf : Tm = .node f) {nx : World → Nat → Goroutine} (h2 : ∀ w1, Rely (C.R 0) C.w w1 → ∀ v : Nat, v < 2147483647 → WgAt ty Wg w1 (v * KK) 0 → stepG P true g w1 = .go (nx w1 v) (w1.setCell (stA Wg) (.int .u64 ((v + 1) * KK))) #[rd (stA Wg), wr (stA Wg)])
    (h3 : ∀ w1, Rely (C.R 0) C.w w1 → ∀ v : Nat, v < 2147483647 → WgAt ty Wg w1 (v * KK) 0 → MRun P ty Post (f (w1, undef, .none, v, 0)) (.wg Wg js .pend) d (C.R 0) (nx w1 v) (w1.setCell (stA Wg) (.int .u64 ((v + 1) * KK)))) : Next P ty Post C Tm k sl 0 := by
  subst hf
  have hG := h.act.2.1
  have hcnt := h.count
  obtain ⟨hN, hW, _⟩ := hG
  have hT : Turn (ShN Wg) C.w (C.w.setCell (stA Wg) (.int .u64 ((((sumTo C.gs.size fun i => busy (C.ph i)) : Nat) + 1 : Int) * KK))) := Turn.setCell _ _ _ ⟨_, rfl, rfl⟩
  refine main_go h (h2 C.w (Rely.refl _ _) _ (by omega) hW) (Tr.lt_node f _) (h3 C.w (Rely.refl _ _) _ (by omega) hW) (fun j _ => hT.mono fun l hl c => h.safe.nosy j l c (h.sy l hl)) (by rw [setSt_size]; exact at_group h ev_rw _ _) (deafB_still ev_rw _) rfl h.sy fun C' c1 c2 c3 c4 c5 => ?_
  refine act_wg0 h.act c1 c5 h.len ?_
  unfold Grp
  simp only [c1, c3, c2]
  exact ⟨hN, hW.setSt _⟩
theorem main_load1 {n : Nat} (h : Fm P ty Post C Tm (.wg Wg js (.idle n)) d k Sy g g) {f : Ix → Tr Ix} (hf : Tm = .node f) {nx : World → Nat → Goroutine} (h2 : ∀ w1, Rely (C.R 0) C.w w1 → ∀ v : Nat, v < 2147483648 → v ≤ n → WgAt ty Wg w1 (v * KK) 0 → stepG P true g w1 = .go (nx w1 v) w1 #[rd (stA Wg)])
    (h3 : ∀ w1, Rely (C.R 0) C.w w1 → WgAt ty Wg w1 0 0 → MRun P ty Post (f (w1, undef, .none, 0, 0)) (.wg Wg js .thru) d (C.R 0) (nx w1 0) w1)
    (h4 : ∀ w1, Rely (C.R 0) C.w w1 → ∀ v : Nat, v < 2147483648 → v ≤ n → v ≠ 0 → WgAt ty Wg w1 (v * KK) 0 → MRun P ty Post (f (w1, undef, .none, v, 0)) (.wg Wg js (.seen v)) d (C.R 0) (nx w1 v) w1) : Next P ty Post C Tm k sl 0 := by
  subst hf
  have hG := h.act.2.1
  have hcnt := h.count
  obtain ⟨hN, hW, hvn⟩ := hG
  have hs := h2 C.w (Rely.refl _ _) _ (by omega) hvn hW
  by_cases c : (sumTo C.gs.size fun i => busy (C.ph i)) = 0
  · rw [c] at hW hs
    have hW0 : WgAt ty Wg C.w 0 0 := by simpa using hW
    refine main_go h hs (Tr.lt_node f _) (h3 C.w (Rely.refl _ _) hW0) (fun j _ => Rely.refl _ _) (at_group h ev_rd _ _) (deafB_still ev_rd _) rfl h.sy fun C' c1 c2 c3 c4 c5 => ?_
    refine act_wg0 h.act c1 c5 h.len ?_
    unfold Grp
    simp only [c1, c3, c2, c]
    exact ⟨trivial, hN, hW0⟩
  · refine main_go h hs (Tr.lt_node f _) (h4 C.w (Rely.refl _ _) _ (by omega) hvn c hW) (fun j _ => Rely.refl _ _) (at_group h ev_rd _ _) (deafB_still ev_rd _) rfl h.sy fun C' c1 c2 c3 c4 c5 => ?_
    refine act_wg0 h.act c1 c5 h.len ?_
    unfold Grp
    simp only [c1, c3, c2]
    exact ⟨hN, hW, Nat.le_refl _⟩
theorem main_cas (h : Fm P ty Post C Tm (.wg Wg js (.seen i)) d k Sy g g) {f : Ix → Tr Ix} (hf : Tm = .node f) {nx : World → Nat → Goroutine} (h2 : ∀ w1, Rely (C.R 0) C.w w1 → ∀ v : Nat, v < 2147483648 → WgAt ty Wg w1 (v * KK) 0 → (v = i → stepG P true g w1 = .go (nx w1 v) (w1.setCell (stA Wg) (.int .u64 (v * KK + 1))) #[rd (stA Wg), wr (stA Wg)]) ∧ (v < i → stepG P true g w1 = .go (nx w1 v) w1 #[rd (stA Wg)]))
    (h3 : ∀ w1, Rely (C.R 0) C.w w1 → WgAt ty Wg w1 (i * KK) 0 → MRun P ty Post (f (w1, undef, .none, i, 1)) (.wg Wg js .slept) d (C.R 0) (nx w1 i) (w1.setCell (stA Wg) (.int .u64 (i * KK + 1))))
    (h4 : ∀ w1, Rely (C.R 0) C.w w1 → ∀ v : Nat, v < 2147483648 → v < i → WgAt ty Wg w1 (v * KK) 0 → MRun P ty Post (f (w1, undef, .none, v, 0)) (.wg Wg js (.idle v)) d (C.R 0) (nx w1 v) w1) (hi : i ≠ 0) : Next P ty Post C Tm k sl 0 := by
  subst hf
  have hG := h.act.2.1
  have hcnt := h.count
  obtain ⟨hN, hW, hvn⟩ := hG
  obtain ⟨a1, a2⟩ := h2 C.w (Rely.refl _ _) _ (by omega) hW
  by_cases c : (sumTo C.gs.size fun i => busy (C.ph i)) = i
  · have hs := a1 c
    rw [c] at hs hW
    have hT : Turn (ShN Wg) C.w (C.w.setCell (stA Wg) (.int .u64 ((i : Int) * KK + 1))) := Turn.setCell _ _ _ ⟨_, rfl, rfl⟩
    refine main_go h hs (Tr.lt_node f _) (h3 C.w (Rely.refl _ _) hW) (fun j _ => hT.mono fun l hl c => h.safe.nosy j l c (h.sy l hl)) (by rw [setSt_size]; exact at_group h ev_rw _ _) (deafB_still ev_rw _) rfl h.sy fun C' c1 c2 c3 c4 c5 => ?_
    refine act_wg0 h.act c1 c5 h.len ?_
    unfold Grp
    simp only [c1, c3, c2, c]
    exact .inl ⟨by omega, hN, hW.setSt _⟩
  · have c' : (sumTo C.gs.size fun i => busy (C.ph i)) < i := by omega
    refine main_go h (a2 c') (Tr.lt_node f _) (h4 C.w (Rely.refl _ _) _ (by omega) c' hW) (fun j _ => Rely.refl _ _) (at_group h ev_rd _ _) (deafB_still ev_rd _) rfl h.sy fun C' c1 c2 c3 c4 c5 => ?_
    refine act_wg0 h.act c1 c5 h.len ?_
    unfold Grp
    simp only [c1, c3, c2]
    exact ⟨hN, hW, Nat.le_refl _⟩
theorem main_load2 (h : Fm P ty Post C Tm (.wg Wg js .woken) d k Sy g g) {f : Ix → Tr Ix} (hf : Tm = .node f) {nx : World → Goroutine} (h2 : ∀ w1, Rely (C.R 0) C.w w1 → WgAt ty Wg w1 0 0 → stepG P true g w1 = .go (nx w1) w1 #[rd (stA Wg)])
    (h3 : ∀ w1, Rely (C.R 0) C.w w1 → WgAt ty Wg w1 0 0 → MRun P ty Post (f (ix w1)) (.wg Wg js .thru) d (C.R 0) (nx w1) w1) : Next P ty Post C Tm k sl 0 := by
  subst hf
  obtain ⟨hv, hN, hW⟩ := h.act.2.1
  refine main_go h (h2 C.w (Rely.refl _ _) hW) (Tr.lt_node f _) (h3 C.w (Rely.refl _ _) hW) (fun j _ => Rely.refl _ _) (at_group h ev_rd _ _) (deafB_still ev_rd _) rfl h.sy fun C' c1 c2 c3 c4 c5 => ?_
  refine act_wg0 h.act c1 c5 h.len ?_
  unfold Grp
  simp only [c1, c3, c2]
  exact ⟨hv, hN, hW⟩
theorem main_park (h : Fm P ty Post C Tm (.wg Wg js .slept) d k Sy g g) (hk : k = 1) {f : Ix → Tr Ix} (hf : Tm = .node f) {nx : World → Goroutine} (hr : g.status = .running) (ho : g.offers = none) (h2 : ∀ w1, Rely (C.R 0) C.w w1 → (∃ st, WgAt ty Wg w1 st 0) → stepG P true g w1 = .go { g with status := .blocked } w1 #[])
    (h3 : ∀ w1, Rely (C.R 0) C.w w1 → WgAt ty Wg w1 0 1 → stepG P true g w1 = .go (nx w1) (w1.setCell (smA Wg) (.int .u32 0)) (semEvents (smA Wg)))
    (h4 : ∀ w1, Rely (C.R 0) C.w w1 → WgAt ty Wg w1 0 1 → MRun P ty Post (f (ix w1)) (.wg Wg js .woken) d (C.R 0) (nx w1) (w1.setCell (smA Wg) (.int .u32 0))) : Next P ty Post C Tm k sl 0 := by
  subst hf
  by_cases c : WgAt ty Wg C.w 0 1
  · have hG := h.act.2.1
    have hv : (sumTo C.gs.size fun i => busy (C.ph i)) = 0 ∧ ∀ j, ¬ isN (C.ph j) := by
      rcases hG with ⟨_, _, a⟩ | ⟨a, b, _⟩ | ⟨_, _, _, ⟨_, a⟩ | ⟨_, a⟩⟩
      · have := (Go.ConcR.WgAt.unique c a).2; omega
      · exact ⟨a, b⟩
      · have := (Go.ConcR.WgAt.unique c a).2; omega
      · have := (Go.ConcR.WgAt.unique c a).2; omega
    have hT : Turn (ShN Wg) C.w (C.w.setCell (smA Wg) (.int .u32 0)) := Turn.setCell _ _ _ ⟨_, rfl, rfl⟩
    refine main_go h (h3 C.w (Rely.refl _ _) c) (Tr.lt_node f _) (h4 C.w (Rely.refl _ _) c) (fun j _ => hT.mono fun l hl c => h.safe.nosy j l c (h.sy l hl)) ?_ ?_ rfl h.sy fun C' c1 c2 c3 c4 c5 => ?_
    · rw [upd_self, setSt_size]
      exact sem_safe h.safe (h.sy _ ⟨_, rfl, rfl⟩) (live_lt h.act.2.1.live)
    · simp [semEvents, deafBehind]
    · refine act_wg0 h.act c1 c5 h.len ?_
      unfold Grp
      simp only [c1, c3, c2]
      exact ⟨hv.1, hv.2, c.setSm _⟩
  · have hst : ∃ st, WgAt ty Wg C.w st 0 := by
      rcases h.act.2.1 with ⟨_, _, a⟩ | ⟨_, _, a⟩ | ⟨_, _, _, ⟨_, a⟩ | ⟨_, a⟩⟩
      · exact ⟨_, a⟩
      · exact absurd a c
      · exact ⟨_, a⟩
      · exact ⟨_, a⟩
    have hs := h2 C.w (Rely.refl _ _) hst
    have h0 := (Array.getElem?_eq_some_iff.1 h.at0).1
    have hrun := runT_crowd_go (P := P) (sl := sl) (i := 0) h.at0 (show stepG P (0 == 0) g C.w = _ from hs)
    have hstay : ∀ j, 1 ≤ j → Stay C ⟨(C.gs.map (woken P g { g with status := .blocked } C.w)).setIfInBounds 0 { g with status := .blocked }, C.w, C.t ++ MemOp.ofEvents 0 g.frame.fn g.frame.place #[], C.F, C.R, C.E, C.ph⟩ j := fun j hj =>
      ⟨by show ((C.gs.map _).setIfInBounds 0 _)[j]? = _; rw [Array.getElem?_setIfInBounds_ne (by omega), Array.getElem?_map]; exact h.letBe hj _ _ _, Rely.refl _ _, ⟨_, rfl, fun op hop => by rw [ops_g op hop]; omega⟩, rfl, rfl, rfl, rfl⟩
    refine ⟨⟨(C.gs.map (woken P g { g with status := .blocked } C.w)).setIfInBounds 0 { g with status := .blocked }, C.w, C.t ++ MemOp.ofEvents 0 g.frame.fn g.frame.place #[], C.F, C.R, C.E, C.ph⟩, _, .node f, .wg Wg js .slept, d, 0, Sy, g, { g with status := .blocked }, hrun, rfl, ⟨?_, h.run, .inr (.inl ⟨Wg, js, rfl, ho, rfl, rfl, c⟩), h.e0, h.p0, ?_, ?_, h.sy, ?_, fun j hj hl => ?_, ?_, fun j hj => ?_⟩, .inr (.inr ⟨rfl, by simp, rfl, by show 0 < k; omega⟩)⟩
    · show ((C.gs.map _).setIfInBounds 0 _)[0]? = _
      rw [Array.getElem?_setIfInBounds_self_of_lt (by simpa using h0)]
    · show Deaf (C.t ++ MemOp.ofEvents 0 g.frame.fn g.frame.place #[]) 0 = d
      rw [show MemOp.ofEvents 0 g.frame.fn g.frame.place #[] = #[] from rfl, Array.append_empty]; exact h.d0
    · show Safe Sy C.R C.E _ (C.t ++ MemOp.ofEvents 0 g.frame.fn g.frame.place #[])
      rw [show MemOp.ofEvents 0 g.frame.fn g.frame.place #[] = #[] from rfl, Array.append_empty]; exact h.safe
    · simp only [Array.size_setIfInBounds, Array.size_map]; exact h.len
    · simp only [Array.size_setIfInBounds, Array.size_map] at hl
      exact (h.old j hj hl).stay (hstay j hj)
    · exact act_wg0 h.act (by simp) hstay h.len (h.act.2.1.keep (by simp) (fun j => .inl rfl) rfl)
    · simp only [Array.size_setIfInBounds, Array.size_map] at hj
      exact (h.above j hj).stay (hstay j (by omega))
end
end Cr
end

section
namespace Cr
open Go Go.Conc
open Go.ConcR (KK WgAt stA smA rd wr mk)
open Go.ConcN (WgLive ShN sumTo upd upd_same upd_ne sumTo_upd sumTo_congr)
section
variable {P : Program} {ty : TypeId} {Post : Value → World → Prop} {C C' : Cf} {i : Nat} {Tm : Tr Ix} {σ : Sg} {d k : Nat} {Sy : Loc → Prop} {g g0 x x' : Goroutine} {sl : Option (Nat × Nat)} {Wg : Nat} {js : List Jb} {st : WSt} {cs : List Ch}
theorem spawn_knows {t : Trace} {n : Nat} {x y : MemOp} (hn0 : n ≠ 0) (hx : x.g = 0 ∧ x.act = .go n) (hy : y.g = n ∧ y.act = .start) (hp : Deaf t 0 = 0) (hn : Deaf t n = 0) {i : Nat} (h : Knows (t ++ #[x, y]) 0 i) : Knows (t ++ #[x, y]) n i := by
  have e0 : (t ++ #[x, y])[t.size]? = some x := by rw [Array.getElem?_append_right (Nat.le_refl _)]; simp
  have e1 : (t ++ #[x, y])[t.size + 1]? = some y := by rw [Array.getElem?_append_right (Nat.le_succ _)]; simp
  have hb : Before (t ++ #[x, y]) i t.size := by
    obtain ⟨q, z, h1, h2, h3⟩ := h
    have hq : q < t.size + 2 := by have := lt_size_of_getElem? h1; simpa using this
    have hq' : q ≠ t.size + 1 := fun c => by
      subst c
      rw [e1] at h1
      obtain rfl := Option.some.inj h1
      exact hn0 (hy.1.symm.trans h2)
    rcases Nat.lt_or_ge q t.size with c | c
    · exact .inr (h3.hb (hb_po c h1 e0 (h2.trans hx.1.symm)))
    · have : q = t.size := by omega
      subst this; exact h3
  have d0 : (t ++ #[x, y]).deaf 0 t.size = 0 := by rw [deaf_old (Nat.le_refl _)]; exact hp
  have d1 : (t ++ #[x, y]).deaf n (t.size + 1) = 0 := by
    rw [deaf_succ e0, deaf_old (Nat.le_refl _)]
    show deafStep n (Deaf t n) x = 0
    rw [hn]
    unfold deafStep
    rw [hx.2]
  refine ⟨t.size + 1, y, e1, hy.1, .inr (hb.hb (Relation.TransGen.single ?_))⟩
  exact .inr ⟨.spawn (by rw [act?_of e0, hx.2]) (by rw [act?_of e1, hy.2]) (by simp [Trace.g?, e1, hy.1]), ⟨0, by simp [Trace.g?, e0, hx.1], d0⟩, ⟨n, by simp [Trace.g?, e1, hy.1], d1⟩⟩
theorem deaf_above {t : Trace} {n : Nat} (h : ∀ op ∈ t, op.g ≠ n) : Deaf t n = 0 := Go.ConcN.Deaf_absent fun _ op ho => h op (mem_of_getElem? ho)
/-- THE STARTER STARTS A GOROUTINE -/
theorem main_spawn (h : Fm P ty Post C Tm σ 0 k Sy g g) {g' child : Goroutine} (hs : stepG P true g C.w = .spawn g' child C.w #[]) {r' rc : Rts} (hsp : Split (C.R 0) r' rc) {T' Tc : Tr Ix} {σ' : Sg} {p : WPh} (hlt : Tr.Lt T' Tm) (hrun : MRun P ty Post T' σ' 0 r' g' C.w) (hlen : σ'.len = σ.len + 1) (hsy : ∀ l, σ'.sy l → Sy l)
    (hact : ∀ C' : Cf, C'.gs.size = C.gs.size + 1 → C'.w = C.w → (∀ j, 1 ≤ j → j < C.gs.size → Stay C C' j) → C'.gs[C.gs.size]? = some child → C'.E C.gs.size = .live → C'.R C.gs.size = rc → C'.R 0 = r' → (∀ j, j ≠ 0 → j ≠ C.gs.size → C'.R j = C.R j) → C'.F C.gs.size = Tc → C'.ph C.gs.size = some p → (∀ j, j ≠ C.gs.size → C'.ph j = C.ph j) → Deaf C'.t C.gs.size = 0 → Act P ty C' σ') : Next P ty Post C Tm k sl 0 := by
  have h0 := (Array.getElem?_eq_some_iff.1 h.at0).1
  have hn0 : C.gs.size ≠ 0 := by omega
  have hab := h.above C.gs.size (Nat.le_refl _)
  obtain ⟨aE, aR, aP, aT⟩ := hab
  have hr := runT_crowd_spawn (P := P) (sl := sl) (i := 0) h.at0 (show stepG P (0 == 0) g C.w = _ from hs)
  generalize hxx : ({ g := 0, fn := g.frame.fn, pos := g.frame.place, act := .go C.gs.size } : MemOp) = xx at hr
  generalize hyy : ({ g := C.gs.size, fn := child.frame.fn, pos := g.frame.place, act := .start } : MemOp) = yy at hr
  have hx : xx.g = 0 ∧ xx.act = .go C.gs.size := by rw [← hxx]; exact ⟨rfl, rfl⟩
  have hy : yy.g = C.gs.size ∧ yy.act = .start := by rw [← hyy]; exact ⟨rfl, rfl⟩
  have eops : ((MemOp.ofEvents 0 g.frame.fn g.frame.place #[]).push xx).push yy = #[xx, yy] := rfl
  rw [eops] at hr
  have hmem : ∀ op ∈ (#[xx, yy] : Array MemOp), op = xx ∨ op = yy := fun op hop => by simpa using hop
  have dn0 := deaf_above aT
  have hcalm : ∀ op ∈ (#[xx, yy] : Array MemOp), op.act ≠ .mark .disable ∧ op.act ≠ .mark .enable := fun op hop => by
    rcases hmem op hop with rfl | rfl
    · rw [hx.2]; simp
    · rw [hy.2]; simp
  have hm : Safe Sy C.R C.E C.w.heap.size (C.t ++ #[xx, yy]) := h.safe.mute
    (fun op hop => by rcases hmem op hop with rfl | rfl; rw [hx.2]; trivial; rw [hy.2]; trivial)
    (fun op hop a => by rcases hmem op hop with rfl | rfl; rw [hx.2]; simp; rw [hy.2]; simp)
    (fun op hop => by rcases hmem op hop with rfl | rfl; rw [hx.2]; rfl; rw [hy.2]; rfl)
  have hRe : ∀ j, j ≠ 0 → j ≠ C.gs.size → upd (upd C.R 0 r') C.gs.size rc j = C.R j := fun j a b => by rw [upd_ne _ _ b, upd_ne _ _ a]
  have hR0 : upd (upd C.R 0 r') C.gs.size rc 0 = r' := by rw [upd_ne _ _ (Ne.symm hn0), upd_same]
  have hRn : upd (upd C.R 0 r') C.gs.size rc C.gs.size = rc := upd_same _ _ _
  have hKe : ∀ j, j ≠ C.gs.size → ∀ y, Kn (C.t ++ #[xx, yy]) C.E j y → Kn (C.t ++ #[xx, yy]) (upd C.E C.gs.size .live) j y := fun j hj y hy => by
    unfold Kn at hy ⊢; rw [upd_ne _ _ hj]; exact hy
  have hK0n : ∀ y, Kn (C.t ++ #[xx, yy]) C.E 0 y → Kn (C.t ++ #[xx, yy]) (upd C.E C.gs.size .live) C.gs.size y := fun y hk => by
    unfold Kn at hk ⊢
    rw [h.e0] at hk
    rw [upd_same]
    exact spawn_knows hn0 hx hy h.d0 dn0 hk
  have hsafe : Safe Sy (upd (upd C.R 0 r') C.gs.size rc) (upd C.E C.gs.size .live) C.w.heap.size (C.t ++ #[xx, yy]) := by
    refine hm.move (fun j l hr => ?_) (fun j j' l hr hr' => ?_) (fun a b l ha hb => ?_) (fun j l hw => ?_) (fun y j hj hk => ?_)
    · by_cases e1 : j = C.gs.size
      · subst e1
        rw [hRn] at hr
        exact ⟨0, hsp.rd2 l hr, hK0n⟩
      · by_cases e2 : j = 0
        · subst e2
          rw [hR0] at hr
          exact ⟨0, hsp.rd1 l hr, hKe 0 e1⟩
        · rw [hRe j e2 e1] at hr
          exact ⟨j, hr, hKe j e1⟩
    · by_cases e1 : j = C.gs.size
      · subst e1; rw [aR] at hr; exact hr.elim
      · by_cases e2 : j = 0
        · subst e2
          rcases hsp.keep l hr with c | c | c
          · exact ⟨0, by rw [hR0]; exact c, hKe 0 e1⟩
          · exact ⟨C.gs.size, by rw [hRn]; exact c, hK0n⟩
          · by_cases f1 : j' = C.gs.size
            · subst f1; exact ⟨_, hr', hK0n⟩
            · by_cases f2 : j' = 0
              · subst f2; exact ⟨0, hr', hKe 0 e1⟩
              · rw [hRe j' f2 f1] at hr'
                exact absurd (h.safe.excl 0 j' l c hr').symm f2
        · exact ⟨j, by rw [hRe j e2 e1]; exact hr, hKe j e1⟩
    · have key : ∀ a, (upd (upd C.R 0 r') C.gs.size rc a).wr l → (a = 0 ∧ r'.wr l) ∨ (a = C.gs.size ∧ rc.wr l) ∨ (a ≠ 0 ∧ a ≠ C.gs.size ∧ (C.R a).wr l) := fun a ha => by
        by_cases e1 : a = C.gs.size
        · subst e1; rw [hRn] at ha; exact .inr (.inl ⟨rfl, ha⟩)
        · by_cases e2 : a = 0
          · subst e2; rw [hR0] at ha; exact .inl ⟨rfl, ha⟩
          · rw [hRe a e2 e1] at ha; exact .inr (.inr ⟨e2, e1, ha⟩)
      have keyr : ∀ a, (upd (upd C.R 0 r') C.gs.size rc a).rd l → (a = 0 ∧ r'.rd l) ∨ (a = C.gs.size ∧ rc.rd l) ∨ (a ≠ 0 ∧ a ≠ C.gs.size ∧ (C.R a).rd l) := fun a ha => by
        by_cases e1 : a = C.gs.size
        · subst e1; rw [hRn] at ha; exact .inr (.inl ⟨rfl, ha⟩)
        · by_cases e2 : a = 0
          · subst e2; rw [hR0] at ha; exact .inl ⟨rfl, ha⟩
          · rw [hRe a e2 e1] at ha; exact .inr (.inr ⟨e2, e1, ha⟩)
      rcases key a ha with ⟨rfl, a1⟩ | ⟨rfl, a1⟩ | ⟨a2, a3, a1⟩
      · rcases keyr b hb with ⟨rfl, b1⟩ | ⟨rfl, b1⟩ | ⟨b2, b3, b1⟩
        · rfl
        · exact absurd b1 (hsp.x1 l a1)
        · exact h.safe.excl 0 b l (hsp.wr1 l a1) b1
      · rcases keyr b hb with ⟨rfl, b1⟩ | ⟨rfl, b1⟩ | ⟨b2, b3, b1⟩
        · exact absurd b1 (hsp.x2 l a1)
        · rfl
        · exact absurd (h.safe.excl 0 b l (hsp.wr2 l a1) b1).symm b2
      · rcases keyr b hb with ⟨rfl, b1⟩ | ⟨rfl, b1⟩ | ⟨b2, b3, b1⟩
        · exact h.safe.excl a 0 l a1 (hsp.rd1 l b1)
        · exact absurd (h.safe.excl a 0 l a1 (hsp.rd2 l b1)) a2
        · exact h.safe.excl a b l a1 b1
    · by_cases e1 : j = C.gs.size
      · subst e1; rw [hRn] at hw ⊢; exact hsp.sub2 l hw
      · by_cases e2 : j = 0
        · subst e2; rw [hR0] at hw ⊢; exact hsp.sub1 l hw
        · rw [hRe j e2 e1] at hw ⊢; exact h.safe.sub j l hw
    · by_cases e1 : j = C.gs.size
      · subst e1
        obtain ⟨op, ho, hog⟩ := Option.map_eq_some_iff.1 hj
        unfold Kn
        rw [upd_same]
        have := knows_own ho
        rw [hog] at this
        exact this
      · exact hKe j e1 y hk
  have hself : ((C.gs.setIfInBounds 0 g').push child)[C.gs.size]? = some child := by rw [Array.getElem?_push]; simp
  have hgj : ∀ j, 1 ≤ j → j < C.gs.size → ((C.gs.setIfInBounds 0 g').push child)[j]? = C.gs[j]? := fun j h1 h2 => by
    rw [Array.getElem?_push, if_neg (by simp; omega), Array.getElem?_setIfInBounds_ne (by omega)]
  have hstay : ∀ j, 1 ≤ j → j ≠ C.gs.size → (j < C.gs.size ∨ C.gs.size < j) → Stay C ⟨(C.gs.setIfInBounds 0 g').push child, C.w, C.t ++ #[xx, yy], upd C.F C.gs.size Tc, upd (upd C.R 0 r') C.gs.size rc, upd C.E C.gs.size .live, upd C.ph C.gs.size (some p)⟩ j := fun j h1 h2 h3 => by
    refine ⟨?_, Rely.refl _ _, ⟨_, rfl, fun op hop => ?_⟩, hRe j (by omega) h2, upd_ne _ _ h2, upd_ne _ _ h2, upd_ne _ _ h2⟩
    · rcases h3 with c | c
      · exact hgj j h1 c
      · show ((C.gs.setIfInBounds 0 g').push child)[j]? = _
        rw [Array.getElem?_eq_none (by simp; omega), Array.getElem?_eq_none (by omega)]
    · rcases hmem op hop with rfl | rfl
      · rw [hx.1]; omega
      · rw [hy.1]; omega
  refine ⟨⟨(C.gs.setIfInBounds 0 g').push child, C.w, C.t ++ #[xx, yy], upd C.F C.gs.size Tc, upd (upd C.R 0 r') C.gs.size rc, upd C.E C.gs.size .live, upd C.ph C.gs.size (some p)⟩, _, T', σ', 0, 1, Sy, g', g', hr, rfl, ⟨?_, ?_, .inl ⟨rfl, rfl⟩, ?_, ?_, ?_, hsafe, hsy, ?_, fun j hj hl => ?_, ?_, fun j hj => ?_⟩, .inl hlt⟩
  · show ((C.gs.setIfInBounds 0 g').push child)[0]? = _
    rw [Array.getElem?_push, if_neg (by simp; omega), Array.getElem?_setIfInBounds_self_of_lt h0]
  · simp only [hR0]; exact hrun
  · show upd C.E C.gs.size .live 0 = .live
    rw [upd_ne _ _ (Ne.symm hn0)]; exact h.e0
  · show upd C.ph C.gs.size (some p) 0 = none
    rw [upd_ne _ _ (Ne.symm hn0)]; exact h.p0
  · show Deaf (C.t ++ #[xx, yy]) 0 = 0
    rw [Deaf_calm hcalm]; exact h.d0
  · have := h.len
    simp only [Array.size_push, Array.size_setIfInBounds]; omega
  · simp only [Array.size_push, Array.size_setIfInBounds] at hl
    exact (h.old j hj (by omega)).stay (hstay j hj (by omega) (.inl (by omega)))
  · refine hact _ (by simp) rfl (fun j h1 h2 => hstay j h1 (by omega) (.inl h2)) hself (upd_same _ _ _) hRn hR0 hRe (upd_same _ _ _) (upd_same _ _ _) (fun j hj => upd_ne _ _ hj) ?_
    show Deaf (C.t ++ #[xx, yy]) _ = 0
    rw [Deaf_calm hcalm]; exact dn0
  · simp only [Array.size_push, Array.size_setIfInBounds] at hj
    exact (h.above j (by omega)).stay (hstay j (by omega) (by omega) (.inr (by omega)))
/-- .. of the group -/
theorem main_spawnW (h : Fm P ty Post C Tm (.wg Wg js .pend) 0 k Sy g g) {g' child : Goroutine} (hs : stepG P true g C.w = .spawn g' child C.w #[]) {r' rc : Rts} (hsp : Split (C.R 0) r' rc) {J : Jb} (hJ : JSt J) (hl : js.length < 1000) {T' Tc : Tr Ix} (hlt : Tr.Lt T' Tm)
    (hw : Wk P ty (WgLive ty Wg) Wg 0 J Tc .calm rc child C.w) (hrun : MRun P ty Post T' (.wg Wg (js ++ [J]) (.idle (js.length + 1))) 0 r' g' C.w) : Next P ty Post C Tm k sl 0 := by
  refine main_spawn h hs hsp (p := .calm) (Tc := Tc) hlt hrun (by simp [Sg.len]) h.sy fun C' c1 c2 c3 c4 c5 c6 c7 c8 c9 c10 c11 c12 => ?_
  have hact := h.act
  have hlen := h.len
  simp only [Sg.len] at hlen
  refine ⟨fun m J' hm => ?_, ?_, by simp; omega⟩
  · rw [c1, List.length_append]
    simp only [List.length_cons, List.length_nil]
    have e : C.gs.size + 1 - (js.length + (0 + 1)) + m = C.gs.size - js.length + m := by omega
    rw [e]
    by_cases hm' : m < js.length
    · rw [List.getElem?_append_left hm'] at hm
      exact ⟨(hact.1 m J' hm).1, (hact.1 m J' hm).2.stay (hact.1 m J' hm).1 (c3 _ (by omega) (by omega))⟩
    · have hm2 := (List.getElem?_eq_some_iff.1 hm).1
      simp at hm2
      have em : m = js.length := by omega
      subst em
      rw [List.getElem?_append_right (Nat.le_refl _)] at hm
      simp at hm
      subst hm
      refine ⟨hJ, ?_⟩
      rw [show C.gs.size - js.length + js.length = C.gs.size by omega]
      exact ⟨child, c4, .inl ⟨c5, c10, c12, by rw [c9, c6, c2]; exact hw⟩⟩
  · obtain ⟨hN, hW⟩ := hact.2.1
    have hsum : (sumTo C'.gs.size fun i => busy (C'.ph i)) = (sumTo C.gs.size fun i => busy (C.ph i)) + 1 := by
      rw [c1]
      show sumTo C.gs.size (fun i => busy (C'.ph i)) + busy (C'.ph C.gs.size) = _
      rw [c10, sumTo_congr fun j hj => by rw [c11 j (by omega)]]
      rfl
    unfold Grp
    simp only [hsum]
    have hc' := h.count'
    refine ⟨fun j => ?_, by rw [c2]; simpa using hW, by omega⟩
    by_cases e : j = C.gs.size
    · subst e; rw [c10]; exact id
    · rw [c11 j e]; exact hN j
/-- .. over a channel -/
theorem main_spawnG (h : Fm P ty Post C Tm (.chs cs) 0 k Sy g g) {g' child : Goroutine} (hs : stepG P true g C.w = .spawn g' child C.w #[]) {r' rc : Rts} (hsp : Split (C.R 0) r' rc) {c : Nat} {J : Jb} (hJ : JSt J) (hc : C.w.heap[c]? = some (.chan 1 #[] false 0 0 false)) (hwr : (C.R 0).wr (.cell ⟨c, 0, none⟩)) (hn1 : ¬ r'.rd (.cell ⟨c, 0, none⟩)) (hn2 : ¬ rc.rd (.cell ⟨c, 0, none⟩))
    {T' Tc : Tr Ix} (hlt : Tr.Lt T' Tm) (hw : Wk P ty (fun _ => True) 0 c J Tc .open_ rc child C.w) (hrun : MRun P ty Post T' (.chs (cs ++ [⟨c, J, none⟩])) 0 r' g' C.w) : Next P ty Post C Tm k sl 0 := by
  refine main_spawn h hs hsp (p := .open_) (Tc := Tc) hlt hrun (by simp [Sg.len]) (fun _ c => c.elim) fun C' c1 c2 c3 c4 c5 c6 c7 c8 c9 c10 c11 c12 => ?_
  have hact := h.act
  have hlen := h.len
  simp only [Sg.len] at hlen
  have hne : ∀ (m : Nat) (ch : Ch), cs[m]? = some ch → ch.c ≠ c := fun m ch hm e => by
    have := (hact.1 m ch hm).2.2 0
    rw [e] at this
    exact this (h.safe.sub 0 _ hwr)
  have hget : ∀ {m : Nat} {ch : Ch}, (cs ++ [⟨c, J, none⟩])[m]? = some ch → (m < cs.length ∧ cs[m]? = some ch) ∨ (m = cs.length ∧ ch = ⟨c, J, none⟩) := fun {m ch} hm => by
    by_cases hm' : m < cs.length
    · rw [List.getElem?_append_left hm'] at hm
      exact .inl ⟨hm', hm⟩
    · have hm2 := (List.getElem?_eq_some_iff.1 hm).1
      simp at hm2
      have em : m = cs.length := by omega
      subst em
      rw [List.getElem?_append_right (Nat.le_refl _)] at hm
      simp at hm
      exact .inr ⟨rfl, hm.symm⟩
  have hlk : ∀ a, ¬ (C.R 0).rd (.cell ⟨a, 0, none⟩) → (∀ j, ¬ (C.R j).rd (.cell ⟨a, 0, none⟩)) → ∀ j, ¬ (C'.R j).rd (.cell ⟨a, 0, none⟩) := fun a h0 hj j c => by
    by_cases e1 : j = C.gs.size
    · subst e1; rw [c6] at c; exact h0 (hsp.rd2 _ c)
    · by_cases e2 : j = 0
      · subst e2; rw [c7] at c; exact h0 (hsp.rd1 _ c)
      · rw [c8 j e2 e1] at c; exact hj j c
  refine ⟨fun m ch hm => ?_, fun m m' a b ha hb e => ?_⟩
  · rw [c1, List.length_append]
    simp only [List.length_cons, List.length_nil]
    have e : C.gs.size + 1 - (cs.length + (0 + 1)) + m = C.gs.size - cs.length + m := by omega
    rw [e]
    rcases hget hm with ⟨hm', hm⟩ | ⟨rfl, rfl⟩
    · obtain ⟨q1, q2, q3⟩ := hact.1 m ch hm
      exact ⟨q1, q2.stay q1 (c3 _ (by omega) (by omega)) (by rw [c2]), hlk _ (q3 0) q3⟩
    · refine ⟨hJ, ?_, fun j hj => ?_⟩
      · rw [show C.gs.size - cs.length + cs.length = C.gs.size by omega]
        exact ⟨child, c4, .inl ⟨c5, c10, c12, rfl, by rw [c2]; exact hc, by rw [c9, c6, c2]; exact hw⟩⟩
      · by_cases e1 : j = C.gs.size
        · subst e1; rw [c6] at hj; exact hn2 hj
        · by_cases e2 : j = 0
          · subst e2; rw [c7] at hj; exact hn1 hj
          · rw [c8 j e2 e1] at hj
            exact e2 (h.safe.excl 0 j _ hwr hj).symm
  · rcases hget ha with ⟨_, ha⟩ | ⟨ea, rfl⟩
    · rcases hget hb with ⟨_, hb⟩ | ⟨eb, rfl⟩
      · exact hact.2 m m' a b ha hb e
      · exact absurd e (hne m a ha)
    · rcases hget hb with ⟨_, hb⟩ | ⟨eb, rfl⟩
      · exact absurd e.symm (hne m' b hb)
      · omega
/-- THE END -/
theorem main_end (h : Fm P ty Post C Tm (.chs []) 0 k Sy g g) {v : Value} {es : Array Event} (hs : stepG P true g C.w = .ended (.done v) C.w es) (hes : ∀ e ∈ es, EvOk (C.R 0) (fun _ => False) true C.w.heap.size C.w.heap.size e) (hpost : Post v C.w) :
    ∃ ops, runT P (crowd C.gs C.w sl) 0 = (.ended (.done v) C.w, ops) ∧ ∀ (w : World) (sl' : Option (Nat × Nat)), Good P Post (crowd C.gs w sl') (.done v) C.w (C.t ++ ops) := by
  refine ⟨_, runT_many_ended (P := P) (sl := sl) (i := 0) h.at0 (show stepG P (0 == 0) g C.w = _ from hs), fun w sl' => ?_⟩
  have hsafe := list_safe (S := fun _ => False) (main := true) h.safe h.e0 (fun _ c => c.elim) (fun _ => rfl) hes g.frame.fn g.frame.place
  have hold : ∀ j, 1 ≤ j → j < C.gs.size → Old P C j := fun j h1 h2 => h.old j h1 (by simpa [Sg.len] using h2)
  refine ⟨v, rfl, hpost, hsafe.clean, fun y j hj hne hc => ?_, ⟨fun z hz => ?_, rfl⟩, fun j z hz hj => ?_⟩
  · have hk := hsafe.over y j hj hc
    have hE : C.E j = .done := by
      by_cases c : j < C.gs.size
      · obtain ⟨_, _, e, _⟩ := hold j (by omega) c; exact e
      · exact (h.above j (by omega)).1
    unfold Kn at hk
    rw [hE] at hk
    obtain ⟨q, op, h1, h2, h3⟩ := hk
    refine ⟨q, by unfold Trace.g?; rw [h1]; simp [h2], ?_⟩
    rcases h3 with e | h3
    · subst e
      obtain ⟨op', ho', hog⟩ := Option.map_eq_some_iff.1 hj
      rw [h1] at ho'
      obtain rfl := Option.some.inj ho'
      exact absurd (hog.symm.trans h2) hne
    · exact h3
  · obtain ⟨j, hj⟩ := List.mem_iff_getElem?.1 hz
    rw [List.getElem?_drop] at hj
    have hj' : C.gs[1 + j]? = some z := by simpa [crowd] using hj
    obtain ⟨y, h1, _, _, _, q, hq, _⟩ := hold (1 + j) (by omega) (Array.getElem?_eq_some_iff.1 hj').1
    obtain rfl := Option.some.inj (hj'.symm.trans h1)
    exact ⟨q, hq.leaves⟩
  · have hz' : C.gs[j]? = some z := hz
    obtain ⟨y, h1, _, _, _, q, hq, _⟩ := hold j (by omega) (Array.getElem?_eq_some_iff.1 hz').1
    obtain rfl := Option.some.inj (hz'.symm.trans h1)
    refine ⟨q, ?_⟩
    have e : (C.t ++ MemOp.ofEvents 0 g.frame.fn g.frame.place es).deaf j (C.t ++ MemOp.ofEvents 0 g.frame.fn g.frame.place es).size = Deaf C.t j := Deaf_not fun op hop => by rw [ops_g op hop]; omega
    rw [e]; exact hq.hears _
end
end Cr
end
