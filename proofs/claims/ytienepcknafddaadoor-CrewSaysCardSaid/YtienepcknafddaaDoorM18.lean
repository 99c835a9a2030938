/- PLAIN LAW of the model: the starter takes over what was laid down (no program text in sight). -/
import Derived.Test.YtienepcknafddaaDoorM17
set_option linter.unusedVariables false
set_option linter.unusedSimpArgs false
section
namespace Cr
open Go Go.Conc
open Go.ConcR (KK WgAt stA smA rd wr mk)
open Go.ConcN (WgLive ShN sumTo upd upd_same upd_ne sumTo_upd sumTo_congr)
section
variable {P : Program} {ty : TypeId} {Post : Value → World → Prop} {C C' : Cf} {i : Nat} {Tm : Tr Ix} {σ : Sg} {d k : Nat} {Sy : Loc → Prop} {g g0 x x' : Goroutine} {sl : Option (Nat × Nat)} {Wg : Nat} {js : List Jb} {st : WSt} {cs : List Ch}
/-- who does a releaseMerge is heard by who acquires behind it -/
theorem acq_knows {t : Trace} {p Wg : Nat} {y : MemOp} (hr : RelAt t p i Wg) (hy : y.g = 0 ∧ y.act = .mark (.acquire (stA Wg))) (hd : Deaf t 0 = 0) (hnr : ∀ op ∈ t, ∀ a, op.act ≠ .mark (.release a)) {z : Nat} (h : Before t z p) : Knows (t ++ #[y]) 0 z := by
  obtain ⟨op, h1, h2, h3, h4⟩ := hr
  have hp := lt_size_of_getElem? h1
  have e0 : (t ++ #[y])[t.size]? = some y := by rw [Array.getElem?_append_right (Nat.le_refl _)]; simp
  have e1 : (t ++ #[y])[p]? = some op := by rw [getElem?_append_old hp]; exact h1
  refine ⟨t.size, y, e0, hy.1, .inr ((h.app #[y]).hb (Relation.TransGen.single (.inr ⟨.marked (a := stA Wg) hp (.inr (by rw [act?_of e1, h3])) (by rw [act?_of e0, hy.2]) fun k hk1 hk2 c => ?_, heard_app _ hp h4, 0, by simp [Trace.g?, e0, hy.1], ?_⟩)))⟩
  · obtain ⟨o, ho, hoa⟩ := Option.map_eq_some_iff.1 c
    rw [getElem?_append_old hk2] at ho
    exact hnr o (mem_of_getElem? ho) _ hoa
  · rw [deaf_old (Nat.le_refl _)]; exact hd
theorem hear_knows {t : Trace} {p c : Nat} {y : MemOp} (hr : CloseAt t p i c) (hy : y.g = 0 ∧ y.act = .recvClosed c) (hd : Deaf t 0 = 0) {z : Nat} (h : Before t z p) : Knows (t ++ #[y]) 0 z := by
  obtain ⟨op, h1, h2, h3, h4⟩ := hr
  have hp := lt_size_of_getElem? h1
  have e0 : (t ++ #[y])[t.size]? = some y := by rw [Array.getElem?_append_right (Nat.le_refl _)]; simp
  have e1 : (t ++ #[y])[p]? = some op := by rw [getElem?_append_old hp]; exact h1
  refine ⟨t.size, y, e0, hy.1, .inr ((h.app #[y]).hb (Relation.TransGen.single (.inr ⟨.closed (c := c) (by rw [act?_of e1, h3]) (by rw [act?_of e0, hy.2]), heard_app _ hp h4, 0, by simp [Trace.g?, e0, hy.1], ?_⟩)))⟩
  rw [deaf_old (Nat.le_refl _)]; exact hd
/-- ALL WORKERS OF THE GROUP HAVE LAID DOWN THEIR RIGHTS: the starter takes them over -/
theorem main_acq (h : Fm P ty Post C Tm (.wg Wg js .thru) 0 k Sy g g) {nx : Goroutine} (hs : stepG P true g C.w = .go nx C.w #[mk (.acquire (stA Wg))]) {f : Ix → Tr Ix} (hf : Tm = .node f)
    (hrun : ∀ qs : List Rts, AllJ js qs C.w → MRun P ty Post (f (C.w, undef, (C.R 0).full qs, 0, 0)) (.chs []) 0 ((C.R 0).full qs) nx C.w) : Next P ty Post C Tm k sl 0 := by
  subst hf
  have h0 := (Array.getElem?_eq_some_iff.1 h.at0).1
  have hact := h.act
  have hlen := h.len
  simp only [Sg.len] at hlen
  obtain ⟨hv, hN, hW⟩ := hact.2.1
  have hlt : Wg < C.w.heap.size := live_lt ⟨_, _, hW⟩
  have hb0 : ∀ j, j < C.gs.size → busy (C.ph j) = 0 := fun j hj => by
    have := sum_pos (φ := fun j => busy (C.ph j)) hj
    simp only [hv] at this; omega
  have hdone : ∀ (m : Nat) (J : Jb), js[m]? = some J → ∃ p, C.E (C.gs.size - js.length + m) = .laid p ∧ RelAt C.t p (C.gs.size - js.length + m) Wg ∧ J undef (C.R (C.gs.size - js.length + m)) C.w ∧ C.ph (C.gs.size - js.length + m) = none ∧ ∃ y q, C.gs[C.gs.size - js.length + m]? = some y ∧ QuitsD P q (Deaf C.t (C.gs.size - js.length + m)) y ∧ C.F (C.gs.size - js.length + m) = Tr.nat q := by
    intro m J hm
    have hml := (List.getElem?_eq_some_iff.1 hm).1
    obtain ⟨y, h1, h2⟩ := (hact.1 m J hm).2
    have hb := hb0 (C.gs.size - js.length + m) (by omega)
    have hn := hN (C.gs.size - js.length + m)
    rcases h2 with ⟨_, c, _⟩ | ⟨p, e, hr, hj, ⟨z, c, hz, _⟩ | ⟨c, q, hq, hf⟩⟩
    · rw [c] at hb; cases hb
    · rw [c] at hb hn
      cases z <;> first | exact absurd trivial hz | exact absurd trivial hn | cases hb
    · exact ⟨p, e, hr, hj, c, y, q, h1, hq, hf⟩
  have hcase : ∀ j, 1 ≤ j → j < C.gs.size → (Old P C j ∨ ∃ m J, js[m]? = some J ∧ j = C.gs.size - js.length + m) := fun j h1 h2 => by
    by_cases c : j < C.gs.size - js.length
    · exact .inl (h.old j h1 (by simpa [Sg.len] using c))
    · exact .inr ⟨j - (C.gs.size - js.length), _, List.getElem?_eq_getElem (by omega), by omega⟩
  have hr := runT_crowd_go (P := P) (sl := sl) (i := 0) h.at0 (show stepG P (0 == 0) g C.w = _ from hs)
  rw [one_op] at hr
  generalize hyy : ({ g := 0, fn := g.frame.fn, pos := g.frame.place, act := .mark (.acquire (stA Wg)) } : MemOp) = y at hr
  have hy : y.g = 0 ∧ y.act = .mark (.acquire (stA Wg)) := by rw [← hyy]; exact ⟨rfl, rfl⟩
  have hmem : ∀ op ∈ (#[y] : Array MemOp), op = y := fun op hop => by simpa using hop
  have hm : Safe Sy C.R C.E C.w.heap.size (C.t ++ #[y]) := h.safe.mute (fun op hop => by rw [hmem op hop, hy.2]; exact hlt) (fun op hop a => by rw [hmem op hop, hy.2]; simp) (fun op hop => by rw [hmem op hop, hy.2]; rfl)
  let qs : List Rts := (List.range js.length).map fun m => C.R (C.gs.size - js.length + m)
  have hqs : AllJ js qs C.w := by
    refine ⟨by simp [qs], fun m J q hm hq => ?_⟩
    have hml := (List.getElem?_eq_some_iff.1 hm).1
    simp only [qs, List.getElem?_map, List.getElem?_range hml, Option.map_some, Option.some.injEq] at hq
    rw [← hq]
    obtain ⟨_, _, _, hj, _⟩ := hdone m J hm
    exact hj
  have hE' : ∀ j, j ≠ 0 → (fun j => if j = 0 then Est.live else Est.done) j = Est.done := fun j hj => if_neg hj
  have hR' : ∀ j, j ≠ 0 → (fun j => if j = 0 then (C.R 0).full qs else Rts.none) j = Rts.none := fun j hj => if_neg hj
  have hk0 : ∀ j z, Kn (C.t ++ #[y]) C.E j z → Knows (C.t ++ #[y]) 0 z := fun j z hk => by
    unfold Kn at hk
    rcases Nat.eq_zero_or_pos j with rfl | hj
    · rw [h.e0] at hk; exact hk
    · by_cases hjs : j < C.gs.size
      · rcases hcase j hj hjs with ⟨_, _, e, _⟩ | ⟨m, J, hm, rfl⟩
        · rw [e] at hk; exact hk
        · obtain ⟨p, e, hrel, _⟩ := hdone m J hm
          rw [e] at hk
          have hkp : Knows (C.t ++ #[y]) 0 p := acq_knows hrel hy h.d0 h.safe.norel (.inl rfl)
          exact Knows.of_before hk hkp
      · rw [(h.above j (by omega)).1] at hk; exact hk
  have hkn' : ∀ j z, Knows (C.t ++ #[y]) 0 z → Kn (C.t ++ #[y]) (fun j => if j = 0 then .live else .done) j z := fun j z hk => by
    unfold Kn
    by_cases e : j = 0
    · subst e; exact hk
    · simp only [if_neg e]; exact hk
  have hrd0 : ∀ j l, (C.R j).rd l → ((C.R 0).full qs).rd l := fun j l hl => by
    rcases Nat.eq_zero_or_pos j with rfl | hj
    · exact .inl hl
    · by_cases hjs : j < C.gs.size
      · rcases hcase j hj hjs with ⟨_, _, _, e, _⟩ | ⟨m, J, hm, rfl⟩
        · rw [e] at hl; exact hl.elim
        · refine .inr ⟨C.R (C.gs.size - js.length + m), ?_, hl⟩
          have hml := (List.getElem?_eq_some_iff.1 hm).1
          exact List.mem_map.2 ⟨m, List.mem_range.2 hml, rfl⟩
      · rw [(h.above j (by omega)).2.1] at hl; exact hl.elim
  have hsafe : Safe Sy (fun j => if j = 0 then (C.R 0).full qs else .none) (fun j => if j = 0 then .live else .done) C.w.heap.size (C.t ++ #[y]) := by
    have only0 : ∀ {j l}, ((fun j => if j = 0 then (C.R 0).full qs else Rts.none) j).rd l → j = 0 := fun {j l} hl => by
      apply Classical.byContradiction
      intro c
      rw [hR' j c] at hl; exact hl
    have only0w : ∀ {j l}, ((fun j => if j = 0 then (C.R 0).full qs else Rts.none) j).wr l → j = 0 := fun {j l} hl => by
      apply Classical.byContradiction
      intro c
      rw [hR' j c] at hl; exact hl
    refine hm.move (fun j l hl => ?_) (fun j j' l hl hl' => ?_) (fun a b l ha hb => (only0w ha).trans (only0 hb).symm) (fun j l hw => ?_) (fun z j _ hk => hkn' j z (hk0 j z hk))
    · have e := only0 hl
      subst e
      rcases hl with hl | ⟨q, hq, hl⟩
      · exact ⟨0, hl, fun z hk => hkn' 0 z (hk0 0 z hk)⟩
      · obtain ⟨m, hm', rfl⟩ := List.mem_map.1 hq
        exact ⟨_, hl, fun z hk => hkn' 0 z (hk0 _ z hk)⟩
    · have e := only0 hl'
      subst e
      exact ⟨0, hrd0 j l hl, fun z hk => hkn' 0 z (hk0 _ z hk)⟩
    · have e := only0w hw
      subst e; exact hw
  have hdj : ∀ j, j ≠ 0 → Deaf (C.t ++ #[y]) j = Deaf C.t j := fun j hj => Deaf_not fun op hop => by rw [hmem op hop, hy.1]; exact Ne.symm hj
  refine ⟨⟨(C.gs.map (woken P g nx C.w)).setIfInBounds 0 nx, C.w, C.t ++ #[y], C.F, fun j => if j = 0 then (C.R 0).full qs else .none, fun j => if j = 0 then .live else .done, C.ph⟩, _, _, .chs [], 0, 1, Sy, nx, nx, hr, rfl, ⟨?_, hrun qs hqs, .inl ⟨rfl, rfl⟩, rfl, h.p0, ?_, hsafe, fun _ c => c.elim, ?_, fun j hj hl => ?_, ?_, fun j hj => ?_⟩, .inl (Tr.lt_node f _)⟩
  · show ((C.gs.map _).setIfInBounds 0 _)[0]? = _
    rw [Array.getElem?_setIfInBounds_self_of_lt (by simpa using h0)]
  · show Deaf (C.t ++ #[y]) 0 = 0
    rw [Deaf_calm fun op hop => by rw [hmem op hop, hy.2]; simp]; exact h.d0
  · simp only [Array.size_setIfInBounds, Array.size_map, Sg.len, List.length_nil]; omega
  · simp only [Array.size_setIfInBounds, Array.size_map, Sg.len, List.length_nil, Nat.sub_zero] at hl
    have hg : ((C.gs.map (woken P g nx C.w)).setIfInBounds 0 nx)[j]? = C.gs[j]? := by
      rw [Array.getElem?_setIfInBounds_ne (by omega), Array.getElem?_map]; exact h.letBe hj _ _ _
    rcases hcase j hj hl with ⟨z, h1, _, _, h4, q, h5, h6⟩ | ⟨m, J, hm', rfl⟩
    · exact ⟨z, hg.trans h1, hE' j (by omega), hR' j (by omega), h4, q, by rw [hdj j (by omega)]; exact h5, h6⟩
    · obtain ⟨p, e, hrel, hj', hp, z, q, h1, h5, h6⟩ := hdone m J hm'
      exact ⟨z, hg.trans h1, hE' _ (by omega), hR' _ (by omega), hp, q, by rw [hdj _ (by omega)]; exact h5, h6⟩
  · exact ⟨fun m ch hm => by simp at hm, fun m m' a b ha => by simp at ha⟩
  · simp only [Array.size_setIfInBounds, Array.size_map] at hj
    obtain ⟨a1, a2, a3, a4⟩ := h.above j hj
    refine ⟨hE' j (by omega), hR' j (by omega), a3, fun op hop => ?_⟩
    rcases Array.mem_append.1 hop with c | c
    · exact a4 op c
    · rw [hmem op c, hy.1]; omega
/-- THE STARTER AT A RECEIVE: its record steps as its walk does -/
theorem recv_at (h : Fm P ty Post C Tm σ d k Sy g g0) (hr : g0.status = .running) (main : Bool) (w : World) : stepG P main g0 w = stepG P main g w ∧ k = 1 ∧ g0.frame = g.frame := by
  rcases h.st with ⟨e, hk⟩ | ⟨_, _, _, _, e, _⟩ | ⟨ch, _, z, _, _, ⟨e, _⟩ | ⟨e, hk⟩⟩
  · rw [e]; exact ⟨rfl, hk, rfl⟩
  · rw [e] at hr; cases hr
  · rw [e] at hr; cases hr
  · rw [e]; exact ⟨stepG_same rfl rfl rfl w, hk, rfl⟩
/-- it waits -/
theorem main_waits {ch : Ch} (h : Fm P ty Post C Tm (.chs (ch :: cs)) 0 k Sy g g0) (hr : g0.status = .running) {z : Value} {ne : World → Array Event}
    (hs : ∀ w1, Rely (C.R 0) C.w w1 → stepG P true g w1 = .comm g #[rcase ch.c z] true (.recv true) w1 (ne w1) ∧ (∀ e ∈ ne w1, EvOk (C.R 0) (fun _ => False) true w1.heap.size w1.heap.size e))
    {cap s r : Nat} {tm : Bool} (hc : C.w.heap[ch.c]? = some (.chan cap #[] false s r tm)) : Next P ty Post C Tm k sl 0 := by
  have h0 := (Array.getElem?_eq_some_iff.1 h.at0).1
  obtain ⟨e1, hk, ef⟩ := recv_at h hr true C.w
  obtain ⟨s1, s2⟩ := hs C.w (Rely.refl _ _)
  have hrun := crowd_waits (P := P) (sl := sl) (i := 0) h.at0 (show stepG P (0 == 0) g0 C.w = _ from e1.trans s1) (fun cc hcc => by
    simp at hcc
    subst hcc
    exact ways_recv_none hc (parts_nil' h))
  have hsafe := list_safe (S := fun _ => False) (main := true) h.safe h.e0 (fun _ c => c.elim) (fun _ => rfl) s2 g0.frame.fn g0.frame.place
  have hstay : ∀ j, 1 ≤ j → Stay C ⟨C.gs.setIfInBounds 0 (parked g #[rcase ch.c z] (.recv true)), C.w, C.t ++ MemOp.ofEvents 0 g0.frame.fn g0.frame.place (ne C.w), C.F, C.R, C.E, C.ph⟩ j := fun j hj =>
    ⟨by show (C.gs.setIfInBounds 0 _)[j]? = _; rw [Array.getElem?_setIfInBounds_ne (by omega)], Rely.refl _ _, ⟨_, rfl, fun op hop => by rw [ops_g op hop]; omega⟩, rfl, rfl, rfl, rfl⟩
  refine ⟨⟨C.gs.setIfInBounds 0 (parked g #[rcase ch.c z] (.recv true)), C.w, C.t ++ MemOp.ofEvents 0 g0.frame.fn g0.frame.place (ne C.w), C.F, C.R, C.E, C.ph⟩, _, Tm, .chs (ch :: cs), 0, 0, Sy, g, parked g #[rcase ch.c z] (.recv true), hrun, rfl, ⟨?_, h.run, .inr (.inr ⟨ch, cs, z, rfl, fun w1 h1 => ⟨_, (hs w1 h1).1⟩, .inl ⟨rfl, rfl, cap, s, r, tm, hc⟩⟩), h.e0, h.p0, ?_, hsafe, h.sy, ?_, fun j hj hl => ?_, ?_, fun j hj => ?_⟩, .inr (.inr ⟨rfl, by simp, rfl, by show 0 < k; omega⟩)⟩
  · show (C.gs.setIfInBounds 0 _)[0]? = _
    rw [Array.getElem?_setIfInBounds_self_of_lt h0]
  · show Deaf (C.t ++ _) 0 = 0
    rw [deaf_own_still fun ev hev => ⟨(s2 ev hev).2.1, (s2 ev hev).2.2.1⟩]; exact h.d0
  · simp only [Array.size_setIfInBounds]; exact h.len
  · simp only [Array.size_setIfInBounds] at hl
    exact (h.old j hj hl).stay (hstay j hj)
  · exact act_chs0 h.act (by simp) hstay h.len (fun m ch' hm => rfl) fun m ch' hm j => (h.act.1 m ch' hm).2.2 j
  · simp only [Array.size_setIfInBounds] at hj
    exact (h.above j hj).stay (hstay j (by omega))
/-- it is given a value -/
theorem main_recv {c : Nat} {J : Jb} (h : Fm P ty Post C Tm (.chs (⟨c, J, none⟩ :: cs)) 0 k Sy g g0) (hr : g0.status = .running) {z : Value} {ne : World → Array Event} {f : Ix → Tr Ix} (hf : Tm = .node f)
    (hs : ∀ w1, Rely (C.R 0) C.w w1 → stepG P true g w1 = .comm g #[rcase c z] true (.recv true) w1 (ne w1) ∧ (∀ e ∈ ne w1, EvOk (C.R 0) (fun _ => False) true w1.heap.size w1.heap.size e))
    (hm : ∀ w1, Rely (C.R 0) C.w w1 → ∀ v, Heard J v → MRun P ty Post (f (w1, v, .none, 0, 0)) (.chs (⟨c, J, some v⟩ :: cs)) 0 (C.R 0) (served g (.tuple #[v, .bool true])) w1) : Next P ty Post C Tm k sl 0 := by
  subst hf
  have hact := h.act
  have hlen := h.len
  simp only [Sg.len, List.length_cons] at hlen
  obtain ⟨hJst, ho, hlock⟩ := hact.1 0 _ rfl
  simp only [List.length_cons, Nat.add_zero] at ho hlock
  obtain ⟨y, h1, h2⟩ := ho
  have hcan : C.w.heap[c]? = some (.chan 1 #[] false 0 0 false) ∨ ∃ v cl, Heard J v ∧ C.w.heap[c]? = some (.chan 1 #[v] cl 1 0 false) := by
    rcases h2 with ⟨_, _, _, _, a, _⟩ | ⟨v, _, _, _, hw, ⟨_, a⟩ | ⟨a, _⟩⟩ | ⟨p, v, _, _, _, hj, _, ⟨_, a⟩ | ⟨a, _⟩⟩
    · exact .inl a
    · exact .inr ⟨v, false, hw.heard rfl, a⟩
    · cases a
    · exact .inr ⟨v, true, ⟨_, _, hj⟩, a⟩
    · cases a
  rcases hcan with hc | ⟨v, cl, hhd, hc⟩
  · exact main_waits h hr hs hc
  · have h0 := (Array.getElem?_eq_some_iff.1 h.at0).1
    obtain ⟨e1, hk, ef⟩ := recv_at h hr true C.w
    obtain ⟨s1, s2⟩ := hs C.w (Rely.refl _ _)
    have hrun := crowd_recv_buf (P := P) (sl := sl) (i := 0) h.at0 (show stepG P (0 == 0) g0 C.w = _ from e1.trans s1) hc (by simp) (parts_nil' h)
    rw [finishComm_recv, show recvd true ((#[v] : Array Value).getD 0 undef) true = .tuple #[v, .bool true] from rfl, show (#[v] : Array Value).extract 1 (#[v] : Array Value).size = #[] from rfl] at hrun
    have hcl := (Array.getElem?_eq_some_iff.1 hc).1
    have hT : Turn (AtC c) C.w (C.w.setChan c 1 #[] cl 1 (0 + 1) false) := Turn.setChan _ hc trivial _ _ _ _ _ _ rfl
    have hRl : ∀ j, Rely (C.R j) C.w (C.w.setChan c 1 #[] cl 1 (0 + 1) false) := fun j => hT.mono fun l hl hh => by rw [hl] at hh; exact hlock j hh
    have hls := list_safe (S := fun _ => False) (main := true) h.safe h.e0 (fun _ c => c.elim) (fun _ => rfl) s2 g0.frame.fn g0.frame.place
    have hops : ∀ op ∈ (#[{ g := 0, fn := g.frame.fn, pos := g.frame.place, act := .recv c 0 1 }, { g := 0, fn := g.frame.fn, pos := g.frame.place, act := .recvDone c 0 }] : Array MemOp), op.g = 0 ∧ op.act.touch? = none ∧ op.act.low C.w.heap.size ∧ (∀ a, op.act ≠ .mark (.release a)) ∧ op.act ≠ .mark .disable ∧ op.act ≠ .mark .enable := by
      intro op hop
      simp only [List.mem_toArray, List.mem_cons, List.not_mem_nil, or_false] at hop
      rcases hop with rfl | rfl <;> exact ⟨rfl, rfl, hcl, by simp, by simp, by simp⟩
    have hsz : (C.w.setChan c 1 #[] cl 1 (0 + 1) false).heap.size = C.w.heap.size := by simp [World.setChan]
    have hstay : ∀ j, 1 ≤ j → Stay C ⟨C.gs.setIfInBounds 0 (served g (.tuple #[v, .bool true])), C.w.setChan c 1 #[] cl 1 (0 + 1) false, C.t ++ (MemOp.ofEvents 0 g0.frame.fn g0.frame.place (ne C.w) ++ #[{ g := 0, fn := g.frame.fn, pos := g.frame.place, act := .recv c 0 1 }, { g := 0, fn := g.frame.fn, pos := g.frame.place, act := .recvDone c 0 }]), C.F, C.R, C.E, C.ph⟩ j := fun j hj =>
      ⟨by show (C.gs.setIfInBounds 0 _)[j]? = _; rw [Array.getElem?_setIfInBounds_ne (by omega)], hRl j, ⟨_, rfl, fun op hop => by
        rcases Array.mem_append.1 hop with c | c
        · rw [ops_g op c]; omega
        · rw [(hops op c).1]; omega⟩, rfl, rfl, rfl, rfl⟩
    refine ⟨⟨C.gs.setIfInBounds 0 (served g (.tuple #[v, .bool true])), C.w.setChan c 1 #[] cl 1 (0 + 1) false, C.t ++ (MemOp.ofEvents 0 g0.frame.fn g0.frame.place (ne C.w) ++ #[{ g := 0, fn := g.frame.fn, pos := g.frame.place, act := .recv c 0 1 }, { g := 0, fn := g.frame.fn, pos := g.frame.place, act := .recvDone c 0 }]), C.F, C.R, C.E, C.ph⟩, _, _, .chs (⟨c, J, some v⟩ :: cs), 0, 1, Sy, _, _, hrun, rfl, ⟨?_, hm _ (hRl 0) v hhd, .inl ⟨rfl, rfl⟩, h.e0, h.p0, ?_, ?_, fun _ c => c.elim, ?_, fun j hj hl => ?_, ?_, fun j hj => ?_⟩, .inl (Tr.lt_node f _)⟩
    · show (C.gs.setIfInBounds 0 _)[0]? = _
      rw [Array.getElem?_setIfInBounds_self_of_lt h0]
    · show Deaf (C.t ++ (_ ++ _)) 0 = 0
      rw [← Array.append_assoc, Deaf_calm fun op hop => (hops op hop).2.2.2.2, deaf_own_still fun ev hev => ⟨(s2 ev hev).2.1, (s2 ev hev).2.2.1⟩]; exact h.d0
    · show Safe Sy C.R C.E _ (C.t ++ (_ ++ _))
      rw [hsz, ← Array.append_assoc]
      exact hls.mute (fun op hop => (hops op hop).2.2.1) (fun op hop => (hops op hop).2.2.2.1) fun op hop => (hops op hop).2.1
    · simp only [Array.size_setIfInBounds, Sg.len, List.length_cons]; exact hlen
    · simp only [Array.size_setIfInBounds] at hl
      exact (h.old j hj (by simpa [Sg.len] using hl)).stay (hstay j hj)
    · refine ⟨fun m ch2 hm => ?_, fun m m' c1 c2 hc1 hc2 e => ?_⟩
      · cases m with
        | zero =>
          simp only [List.getElem?_cons_zero, Option.some.injEq] at hm
          subst hm
          refine ⟨hJst, ?_, hlock⟩
          simp only [Array.size_setIfInBounds, List.length_cons, Nat.add_zero]
          have sst := hstay (C.gs.size - (cs.length + 1)) (by omega)
          have hg := setChan_get hcl 1 #[] cl 1 (0 + 1) false
          refine ⟨y, sst.gs.trans h1, ?_⟩
          rcases h2 with ⟨_, _, _, _, a, _⟩ | ⟨v', a1, a2, a3, a4, ⟨_, a⟩ | ⟨a, _⟩⟩ | ⟨p, v', a1, a2, a3, a4, ⟨q, a5, a6⟩, ⟨_, a⟩ | ⟨a, _⟩⟩
          · rw [hc] at a; simp at a
          · rw [hc] at a
            simp only [Option.some.injEq, Obj.chan.injEq, true_and, and_true] at a
            obtain ⟨b1, b2⟩ := a
            simp only [Array.mk.injEq, List.cons.injEq, and_true] at b1
            subst b1 b2
            exact .inr (.inl ⟨v, a1, a2, sst.deaf.trans a3, a4.rely (hRl _), .inr ⟨rfl, hg⟩⟩)
          · cases a
          · rw [hc] at a
            simp only [Option.some.injEq, Obj.chan.injEq, true_and, and_true] at a
            obtain ⟨b1, b2⟩ := a
            simp only [Array.mk.injEq, List.cons.injEq, and_true] at b1
            subst b1 b2
            exact .inr (.inr ⟨p, v, a1, a2, a3.app _, hJst _ _ _ _ a4 (hRl _), ⟨q, by rw [sst.deaf]; exact a5, a6⟩, .inr ⟨rfl, hg⟩⟩)
          · cases a
        | succ m =>
          simp only [List.getElem?_cons_succ] at hm
          obtain ⟨q1, q2, q3⟩ := hact.1 (m + 1) ch2 (by simpa using hm)
          refine ⟨q1, ?_, q3⟩
          simp only [Array.size_setIfInBounds, List.length_cons] at q2 ⊢
          refine q2.stay q1 (hstay _ (by omega)) (setChan_ne (fun e => ?_) _ _ _ _ _ _)
          have := hact.2 0 (m + 1) _ ch2 rfl (by simpa using hm) e
          omega
      · refine hact.2 m m' (match m with | 0 => ⟨c, J, none⟩ | _ + 1 => c1) (match m' with | 0 => ⟨c, J, none⟩ | _ + 1 => c2) ?_ ?_ ?_
        · cases m with
          | zero => rfl
          | succ m => simpa using hc1
        · cases m' with
          | zero => rfl
          | succ m => simpa using hc2
        · cases m with
          | zero =>
            simp only [List.getElem?_cons_zero, Option.some.injEq] at hc1
            subst hc1
            cases m' with
            | zero => rfl
            | succ m' => exact e
          | succ m =>
            cases m' with
            | zero =>
              simp only [List.getElem?_cons_zero, Option.some.injEq] at hc2
              subst hc2; exact e
            | succ m' => exact e
    · simp only [Array.size_setIfInBounds] at hj
      exact (h.above j hj).stay (hstay j (by omega))
/-- it hears that the channel is closed -/
theorem main_hear {c : Nat} {J : Jb} {m : Value} (h : Fm P ty Post C Tm (.chs (⟨c, J, some m⟩ :: cs)) 0 k Sy g g0) (hr : g0.status = .running) {z : Value} {ne : World → Array Event} {f : Ix → Tr Ix} (hf : Tm = .node f)
    (hs : ∀ w1, Rely (C.R 0) C.w w1 → stepG P true g w1 = .comm g #[rcase c z] true (.recv true) w1 (ne w1) ∧ (∀ e ∈ ne w1, EvOk (C.R 0) (fun _ => False) true w1.heap.size w1.heap.size e))
    (hm1 : ∀ w1, Rely (C.R 0) C.w w1 → ∀ q, J m q w1 → cs = [] → MRun P ty Post (f (w1, undef, q, 0, 0)) (.chs []) 0 ((C.R 0).full [q]) (served g (.tuple #[z, .bool false])) w1)
    (hm2 : ∀ w1, Rely (C.R 0) C.w w1 → ∀ q, J m q w1 → cs ≠ [] → MRun P ty Post (f (w1, undef, q, 0, 0)) (.chs cs) 0 ((C.R 0).join q) (served g (.tuple #[z, .bool false])) w1) : Next P ty Post C Tm k sl 0 := by
  subst hf
  have hact := h.act
  have hlen := h.len
  simp only [Sg.len, List.length_cons] at hlen
  obtain ⟨hJst, ho, hlock⟩ := hact.1 0 _ rfl
  simp only [List.length_cons, Nat.add_zero] at ho hlock
  obtain ⟨y0, h1, h2⟩ := ho
  generalize hi0 : C.gs.size - (cs.length + 1) = i0 at h1 h2
  rcases h2 with ⟨_, _, _, a, _⟩ | ⟨v, _, _, _, _, ⟨a, _⟩ | ⟨_, hc⟩⟩ | ⟨p, v, a1, a2, a3, a4, ⟨q, a5, a6⟩, ⟨a, _⟩ | ⟨ev, hc⟩⟩
  · cases a
  · cases a
  · exact main_waits h hr hs hc
  · cases a
  · simp only [Option.some.injEq] at ev
    subst ev
    have h0 := (Array.getElem?_eq_some_iff.1 h.at0).1
    obtain ⟨e1, hk, ef⟩ := recv_at h hr true C.w
    obtain ⟨s1, s2⟩ := hs C.w (Rely.refl _ _)
    have hrun := crowd_recv_closed (P := P) (sl := sl) (i := 0) h.at0 (show stepG P (0 == 0) g0 C.w = _ from e1.trans s1) hc (parts_nil' h)
    rw [finishComm_recv, show recvd true z false = .tuple #[z, .bool false] from rfl] at hrun
    have hcl := (Array.getElem?_eq_some_iff.1 hc).1
    have hls := list_safe (S := fun _ => False) (main := true) h.safe h.e0 (fun _ c => c.elim) (fun _ => rfl) s2 g0.frame.fn g0.frame.place
    generalize hyy : ({ g := 0, fn := g.frame.fn, pos := g.frame.place, act := .recvClosed c } : MemOp) = y at hrun
    have hy : y.g = 0 ∧ y.act = .recvClosed c := by rw [← hyy]; exact ⟨rfl, rfl⟩
    have hmem : ∀ op ∈ (#[y] : Array MemOp), op = y := fun op hop => by simpa using hop
    have hm : Safe Sy C.R C.E C.w.heap.size (C.t ++ MemOp.ofEvents 0 g0.frame.fn g0.frame.place (ne C.w) ++ #[y]) := hls.mute (fun op hop => by rw [hmem op hop, hy.2]; exact hcl) (fun op hop a => by rw [hmem op hop, hy.2]; simp) (fun op hop => by rw [hmem op hop, hy.2]; rfl)
    have hi0n : i0 ≠ 0 := by omega
    have hd1 : Deaf (C.t ++ MemOp.ofEvents 0 g0.frame.fn g0.frame.place (ne C.w)) 0 = 0 := by
      rw [deaf_own_still fun ev hev => ⟨(s2 ev hev).2.1, (s2 ev hev).2.2.1⟩]; exact h.d0
    have hkp : ∀ {z}, Before (C.t ++ MemOp.ofEvents 0 g0.frame.fn g0.frame.place (ne C.w)) z p → Knows (C.t ++ MemOp.ofEvents 0 g0.frame.fn g0.frame.place (ne C.w) ++ #[y]) 0 z := fun hb => hear_knows (a3.app _) hy hd1 hb
    have hkp' : Knows (C.t ++ MemOp.ofEvents 0 g0.frame.fn g0.frame.place (ne C.w) ++ #[y]) 0 p := hkp (.inl rfl)
    -- the rights behind it
    have hother : ∀ j, j ≠ 0 → cs = [] → j ≠ i0 → C.R j = .none := fun j hj hcs hne => by
      by_cases hjs : j < C.gs.size
      · subst hcs
        obtain ⟨_, _, _, e, _⟩ := h.old j (by omega) (by simp only [Sg.len, List.length_cons, List.length_nil] at hi0 ⊢; omega)
        exact e
      · exact (h.above j (by omega)).2.1
    have main : ∀ r' : Rts, (∀ l, r'.rd l ↔ (C.R 0).rd l ∨ (C.R i0).rd l) → (∀ l, r'.wr l → ((C.R 0).wr l ∨ (C.R i0).wr l) ∨ (cs = [] ∧ r'.rd l)) → (∀ l, r'.wr l → r'.rd l) → MRun P ty Post (f (C.w, undef, C.R i0, 0, 0)) (.chs cs) 0 r' (served g (.tuple #[z, .bool false])) C.w → Next P ty Post C (.node f) k sl 0 := by
      intro r' hrd hwr hsub hmr
      have hR' : ∀ j, j ≠ 0 → j ≠ i0 → upd (upd C.R 0 r') i0 .none j = C.R j := fun j a b => by rw [upd_ne _ _ b, upd_ne _ _ a]
      have hR0 : upd (upd C.R 0 r') i0 .none 0 = r' := by rw [upd_ne _ _ (Ne.symm hi0n), upd_same]
      have hRi : upd (upd C.R 0 r') i0 .none i0 = .none := upd_same _ _ _
      have hE0 : upd C.E i0 .done 0 = .live := by rw [upd_ne _ _ (Ne.symm hi0n)]; exact h.e0
      have hKe : ∀ j x, Kn (C.t ++ MemOp.ofEvents 0 g0.frame.fn g0.frame.place (ne C.w) ++ #[y]) C.E j x → Kn (C.t ++ MemOp.ofEvents 0 g0.frame.fn g0.frame.place (ne C.w) ++ #[y]) (upd C.E i0 .done) j x := fun j x hk => by
        by_cases e : j = i0
        · subst e
          unfold Kn at hk ⊢
          rw [a1] at hk
          rw [upd_same]
          exact Knows.of_before hk hkp'
        · unfold Kn at hk ⊢
          rw [upd_ne _ _ e]; exact hk
      have hKi0 : ∀ x, Kn (C.t ++ MemOp.ofEvents 0 g0.frame.fn g0.frame.place (ne C.w) ++ #[y]) C.E i0 x → Kn (C.t ++ MemOp.ofEvents 0 g0.frame.fn g0.frame.place (ne C.w) ++ #[y]) (upd C.E i0 .done) 0 x := fun x hk => by
        unfold Kn at hk ⊢
        rw [a1] at hk
        rw [hE0]
        exact Knows.of_before hk hkp'
      have hsafe : Safe Sy (upd (upd C.R 0 r') i0 .none) (upd C.E i0 .done) C.w.heap.size (C.t ++ MemOp.ofEvents 0 g0.frame.fn g0.frame.place (ne C.w) ++ #[y]) := by
        have keyr : ∀ j l, (upd (upd C.R 0 r') i0 .none j).rd l → (j = 0 ∧ r'.rd l) ∨ (j ≠ 0 ∧ j ≠ i0 ∧ (C.R j).rd l) := fun j l hl => by
          by_cases e1 : j = i0
          · subst e1; rw [hRi] at hl; exact hl.elim
          · by_cases e2 : j = 0
            · subst e2; rw [hR0] at hl; exact .inl ⟨rfl, hl⟩
            · rw [hR' j e2 e1] at hl; exact .inr ⟨e2, e1, hl⟩
        refine hm.move (fun j l hl => ?_) (fun j j' l hl hl' => ?_) (fun a b l ha hb => ?_) (fun j l hw => ?_) (fun x j _ hk => hKe j x hk)
        · rcases keyr j l hl with ⟨rfl, c⟩ | ⟨c1, c2, c⟩
          · rcases (hrd l).1 c with c | c
            · exact ⟨0, c, hKe 0⟩
            · exact ⟨i0, c, hKi0⟩
          · exact ⟨j, c, hKe j⟩
        · by_cases e1 : j = i0
          · subst e1
            exact ⟨0, by rw [hR0]; exact (hrd l).2 (.inr hl), hKi0⟩
          · by_cases e2 : j = 0
            · subst e2
              exact ⟨0, by rw [hR0]; exact (hrd l).2 (.inl hl), hKe 0⟩
            · exact ⟨j, by rw [hR' j e2 e1]; exact hl, hKe j⟩
        · by_cases e1 : a = i0
          · subst e1; rw [hRi] at ha; exact ha.elim
          · by_cases e2 : a = 0
            · subst e2
              rw [hR0] at ha
              rcases keyr b l hb with ⟨rfl, _⟩ | ⟨c1, c2, c⟩
              · rfl
              · rcases hwr l ha with (d | d) | ⟨d, _⟩
                · exact h.safe.excl 0 b l d c
                · exact absurd (h.safe.excl i0 b l d c).symm c2
                · rw [hother b c1 d c2] at c; exact c.elim
            · rw [hR' a e2 e1] at ha
              rcases keyr b l hb with ⟨rfl, c⟩ | ⟨c1, c2, c⟩
              · rcases (hrd l).1 c with c | c
                · exact h.safe.excl a 0 l ha c
                · exact absurd (h.safe.excl a i0 l ha c) e1
              · exact h.safe.excl a b l ha c
        · by_cases e1 : j = i0
          · subst e1; rw [hRi] at hw; exact hw.elim
          · by_cases e2 : j = 0
            · subst e2; rw [hR0] at hw ⊢; exact hsub l hw
            · rw [hR' j e2 e1] at hw ⊢; exact h.safe.sub j l hw
      have hdj : ∀ j, j ≠ 0 → Deaf (C.t ++ (MemOp.ofEvents 0 g0.frame.fn g0.frame.place (ne C.w) ++ #[y])) j = Deaf C.t j := fun j hj => Deaf_not fun op hop => by
        rcases Array.mem_append.1 hop with c | c
        · rw [ops_g op c]; exact Ne.symm hj
        · rw [hmem op c, hy.1]; exact Ne.symm hj
      have hgj : ∀ j, 1 ≤ j → (C.gs.setIfInBounds 0 (served g (.tuple #[z, .bool false])))[j]? = C.gs[j]? := fun j hj => by rw [Array.getElem?_setIfInBounds_ne (by omega)]
      have hstay : ∀ j, 1 ≤ j → j ≠ i0 → Stay C ⟨C.gs.setIfInBounds 0 (served g (.tuple #[z, .bool false])), C.w, C.t ++ (MemOp.ofEvents 0 g0.frame.fn g0.frame.place (ne C.w) ++ #[y]), C.F, upd (upd C.R 0 r') i0 .none, upd C.E i0 .done, C.ph⟩ j := fun j hj hne =>
        ⟨hgj j hj, Rely.refl _ _, ⟨_, rfl, fun op hop => by
          rcases Array.mem_append.1 hop with c | c
          · rw [ops_g op c]; omega
          · rw [hmem op c, hy.1]; omega⟩, hR' j (by omega) hne, upd_ne _ _ hne, rfl, rfl⟩
      refine ⟨⟨C.gs.setIfInBounds 0 (served g (.tuple #[z, .bool false])), C.w, C.t ++ (MemOp.ofEvents 0 g0.frame.fn g0.frame.place (ne C.w) ++ #[y]), C.F, upd (upd C.R 0 r') i0 .none, upd C.E i0 .done, C.ph⟩, _, _, .chs cs, 0, 1, Sy, _, _, hrun, rfl, ⟨?_, by simp only [hR0]; exact hmr, .inl ⟨rfl, rfl⟩, hE0, h.p0, ?_, ?_, fun _ c => c.elim, ?_, fun j hj hl => ?_, ?_, fun j hj => ?_⟩, .inl (Tr.lt_node f _)⟩
      · show (C.gs.setIfInBounds 0 _)[0]? = _
        rw [Array.getElem?_setIfInBounds_self_of_lt h0]
      · show Deaf (C.t ++ (_ ++ _)) 0 = 0
        rw [← Array.append_assoc, Deaf_calm fun op hop => by rw [hmem op hop, hy.2]; simp]; exact hd1
      · show Safe Sy _ _ _ (C.t ++ (_ ++ _))
        rw [← Array.append_assoc]; exact hsafe
      · simp only [Array.size_setIfInBounds, Sg.len]; omega
      · simp only [Array.size_setIfInBounds, Sg.len] at hl
        by_cases e : j = i0
        · subst e
          exact ⟨y0, (hgj j hj).trans h1, upd_same _ _ _, hRi, a2, q, by rw [hdj j hi0n]; exact a5, a6⟩
        · exact (h.old j hj (by simp only [Sg.len, List.length_cons]; omega)).stay (hstay j hj e)
      · refine ⟨fun m' ch2 hm' => ?_, fun m1 m2 c1 c2 hc1 hc2 e => ?_⟩
        · obtain ⟨q1, q2, q3⟩ := hact.1 (m' + 1) ch2 (by simpa using hm')
          have hml := (List.getElem?_eq_some_iff.1 hm').1
          simp only [List.length_cons] at q2
          refine ⟨q1, ?_, fun j hj => ?_⟩
          rotate_left
          · replace hj : (upd (upd C.R 0 r') i0 .none j).rd (.cell ⟨ch2.c, 0, none⟩) := hj
            by_cases e1 : j = i0
            · subst e1; rw [hRi] at hj; exact hj
            · by_cases e2 : j = 0
              · subst e2
                rw [hR0] at hj
                rcases (hrd _).1 hj with c | c
                · exact q3 0 c
                · exact q3 i0 c
              · rw [hR' j e2 e1] at hj; exact q3 j hj
          · simp only [Array.size_setIfInBounds]
            rw [show C.gs.size - cs.length + m' = C.gs.size - (cs.length + 1) + (m' + 1) by omega]
            exact q2.stay q1 (hstay _ (by omega) (by omega)) rfl
        · have := hact.2 (m1 + 1) (m2 + 1) c1 c2 (by simpa using hc1) (by simpa using hc2) e
          omega
      · simp only [Array.size_setIfInBounds] at hj
        exact (h.above j hj).stay (hstay j (by omega) (by omega))
    by_cases hcs : cs = []
    · have hmr := hm1 C.w (Rely.refl _ _) (C.R i0) a4 hcs
      refine main ((C.R 0).full [C.R i0]) (fun l => ?_) (fun l hl => .inr ⟨hcs, hl⟩) (fun l hl => hl) (by rw [hcs]; exact hmr)
      simp [Rts.full]
    · exact main ((C.R 0).join (C.R i0)) (fun l => Iff.rfl) (fun l hl => .inl hl) (fun l hl => hl.imp (h.safe.sub 0 l) (h.safe.sub i0 l)) (hm2 C.w (Rely.refl _ _) (C.R i0) a4 hcs)
end
end Cr
end
