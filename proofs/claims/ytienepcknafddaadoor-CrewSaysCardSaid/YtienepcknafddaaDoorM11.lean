/- PLAIN LAW of the model: one step of a goroutine in a fragment of the language, in a small world and in a great one (no program text in sight). · PLAIN LAW of the model: a lone call in a fragment of the language that comes back, on every tape: so it does step by step, whoever turns the tape between the steps (no program text in sight). -/
import Derived.Test.YtienepcknafddaaDoorM10
import Derived.Laws.Sem
set_option linter.unusedVariables false
set_option linter.unusedSimpArgs false
section
namespace Co
open Go Go.Conc
variable {L : List FuncId} {P : Program} {ρ : Ren}

/-! ### what a function hands back -/
def resV (fn : Func) (t : Array Value) : Value :=
  let vs := fn.results.map fun r => match r with
    | .tmp i => t.getD i undef
    | _ => undef
  if h : vs.size = 1 then vs[0] else .tuple vs
theorem res_eq {fn : Func} (h : resB fn = true) (t : Array Value) : results fn t = Pure.pure (resV fn t) := by
  unfold results resV
  unfold resB at h
  have key : (fn.results.mapM fun r => match r with
      | .tmp i => Pure.pure (t.getD i undef)
      | .cell a ty => do loadVar ty (← asAddr (t.getD a undef)) : Sem (Array Value)) = Pure.pure (fn.results.map fun r => match r with
    | .tmp i => t.getD i undef
    | _ => undef) := by
    rw [Array.mapM_eq_mapM_toList]
    have : ∀ l : List ResultVar, (l.all fun r => match r with | .tmp _ => true | _ => false) = true → (l.mapM fun r => match r with
      | .tmp i => Pure.pure (t.getD i undef)
      | .cell a ty => do loadVar ty (← asAddr (t.getD a undef)) : Sem (List Value)) = Pure.pure (l.map fun r => match r with
        | .tmp i => t.getD i undef
        | _ => undef) := by
      intro l
      induction l with
      | nil => intro _; simp
      | cons r l ih =>
        intro hl
        simp only [List.all_cons, Bool.and_eq_true] at hl
        rw [List.mapM_cons, ih hl.2]
        cases r with
        | tmp i => simp
        | cell a ty => cases hl.1
    rw [this _ h]
    rw [map_pure, ← Array.toList_map, Array.toArray_toList]
  exact congrArg (fun (s : Sem (Array Value)) => s >>= fun vs => Pure.pure (if h : vs.size = 1 then vs[0] else .tuple vs)) key
theorem res_vr (fn : Func) {t t' : Array Value} (h : RR (· ∈ L) ρ t t') : VR (· ∈ L) ρ (resV fn t) (resV fn t') := by
  have hr : RR (· ∈ L) ρ (fn.results.map fun r => match r with | .tmp i => t.getD i undef | _ => undef) (fn.results.map fun r => match r with | .tmp i => t'.getD i undef | _ => undef) := RR.map _ fun r _ => by
    cases r with
    | tmp i => exact tmp_vr h i
    | cell a ty => exact undef_vr
  unfold resV
  simp only
  split
  · next h1 =>
    rw [dif_pos (by rw [← hr.size]; exact h1)]
    exact hr.at_ 0 _ _ (Array.getElem?_eq_getElem _) (Array.getElem?_eq_getElem _)
  · next h1 =>
    rw [dif_neg (by rw [← hr.size]; exact h1)]
    exact hr.tuple

/-! ### one step -/
/-- what a step draws -/
def used (P : Program) (fr : Frame) (w : World) : Nat := match fr.mode, fr.todo with
  | .run, .code (.region _ _ true) :: _ => 1
  | .run, .inRegion ops (i :: _) :: _ => if ((ops[i]?).map (Region.wanted · (yielded ops fr.tmps))).getD false then ((execOp fr.eval (ops.getD i default)).runT P w #[]).1.w.drawn - w.drawn else 0
  | _, _ => 0
/-- a step that is none of the good ones: behind it the call does not come back -/
def Bad (fr : Frame) (cs : List Frame) : GStep → Prop
  | .ended _ _ _ => True
  | .go g _ _ => g.callers = cs ∧ g.dying = none ∧ ((g.frame = fr ∧ (g.status = .blocked ∨ g.status = .waiting)) ∨ (g.status = .running ∧ g.offers = none ∧ ∃ ch, g.frame = { fr with mode := .panicking ch }))
  | _ => False
/-- both do a good step -/
def Both (L : List FuncId) (P : Program) (ρ : Ren) (B : Bot) (m m' : Bool) (fr fr' : Frame) (cs cs' base base' : List Frame) (w w' : World) : Prop :=
  ∃ ρ1 fr1 fr1' cs1 cs1' w1 w1' es es', stepG P m (G fr (cs ++ base)) w = .go (G fr1 (cs1 ++ base)) w1 es ∧ stepG P m' (G fr' (cs' ++ base')) w' = .go (G fr1' (cs1' ++ base')) w1' es' ∧
    SK L P ρ1 B (fr1 :: cs1) (fr1' :: cs1') ∧ Out (· ∈ L) ρ ρ1 w w' w1 w1' #[] es' ∧ w1'.drawn = w'.drawn + used P fr' w'
theorem Out.seen {ρ1 : Ren} {w w' u u' : World} {f : Array Event} (h : Out (· ∈ L) ρ ρ1 w w' u u' #[] f) (g : FuncId) : Out (· ∈ L) ρ ρ1 w w' u u' #[] (Go.seen P g f) := by
  refine { h with evs := ⟨(Go.seen P g f).toList, by simp, fun e he => ?_⟩ }
  obtain ⟨l, e1, h1⟩ := h.evs
  have := seen_in e (by simpa using he)
  rw [e1] at this
  exact h1 e (by simpa using this)
/-- the frame at the top may be laid anew -/
def Hold (L : List FuncId) (P : Program) (ρ : Ren) (up : Bool) (b B : Bot) (cs cs' : List Frame) : Prop := ∀ ρ1, Ext ρ ρ1 → ∀ a a', FR L P ρ1 up b a a' → SK L P ρ1 B (a :: cs) (a' :: cs')
section
variable {up : Bool} {b B : Bot} {f : FuncId} {t t' : Array Value} {cs cs' base base' : List Frame} {w w' : World} {m m' : Bool}
theorem Both.to {todo : List Item} {mode : FrameMode} (hw : WR (· ∈ L) ρ w w') (hh : Hold L P ρ up b B cs cs') (h0 : FnAt P b f) (h1 : up = true → f ∈ L ∧ b = bot0) (h4 : b.kd ≠ .early) (h7 : b.sp = none) (ht : RR (· ∈ L) ρ t t') (todo1 : List Item) (mode1 : FrameMode)
    (hu : used P (gF b f t' todo mode) w' = 0) (hm : Live mode1) (hm1 : up = false → mode1 = .run) (hi : ∀ x ∈ todo1, itemOk P L up x = true)
    (g1 : stepG P m (G (mkF f t todo mode) (cs ++ base)) w = .go (G (mkF f t todo1 mode1) (cs ++ base)) w #[])
    (g2 : stepG P m' (G (gF b f t' todo mode) (cs' ++ base')) w' = .go (G (gF b f t' todo1 mode1) (cs' ++ base')) w' #[]) :
    Both L P ρ B m m' (mkF f t todo mode) (gF b f t' todo mode) cs cs' base base' w w' :=
  ⟨ρ, _, _, cs, cs', w, w', _, _, g1, g2, hh ρ (Ext.refl ρ) _ _ (.mk f todo1 mode1 h0 h1 hm1 hm h4 hi ht h7), Out.refl hw #[], by rw [hu]; rfl⟩
theorem Both.fin {fr fr' : Frame} (hw : WR (· ∈ L) ρ w w') (hh : Hold L P ρ up b B cs cs') (hfr : FR L P ρ up b fr fr') (hne : fr.todo ≠ []) (hnn : NotNow b fr)
    (g1 : stepG P m (G fr (cs ++ base)) w = .go (G (fr.finish undef) (cs ++ base)) w #[]) (g2 : stepG P m' (G fr' (cs' ++ base')) w' = .go (G (fr'.finish undef) (cs' ++ base')) w' #[]) (hu : used P fr' w' = 0) : Both L P ρ B m m' fr fr' cs cs' base base' w w' :=
  ⟨ρ, _, _, cs, cs', w, w', _, _, g1, g2, hh ρ (Ext.refl ρ) _ _ (hfr.finish hne hnn undef_vr).1, Out.refl hw #[], by rw [hu]; rfl⟩
theorem sim_op (hF : FunsB P L) (hg : ρ.glob = P.globals.size) (hw : WR (· ∈ L) ρ w w') (hh : Hold L P ρ up b B cs cs') (h4 : b.kd ≠ .early) (ht : RR (· ∈ L) ρ t t')
    {ops ops2 : Array Oper} {i : Nat} {r : List Nat} {k k2 : List Item} (hfr0 : FR L P ρ up b (mkF f t (.inRegion ops (i :: r) :: k) .run) (gF b f t' (.inRegion ops2 (i :: r) :: k2) .run)) (hnn : NotNow b (mkF f t (.inRegion ops (i :: r) :: k) .run)) (hB : ∀ n og oq, B.sp = some (n, og, oq) → ∃ o v, og[n]? = some o ∧ o.op = .assign (.const v)) (hA : Agree w w' (used P (gF b f t' (.inRegion ops2 (i :: r) :: k2) .run) w'))
    {o : Oper} (ho : ops[i]? = some o) (ho2 : ops2[i]? = some o) (hoo : opOk P L o.op = true) (hwt : Region.wanted o (yielded ops t) = true) (hy : yielded ops t = yielded ops2 t') :
    Both L P ρ B m m' (mkF f t (.inRegion ops (i :: r) :: k) .run) (gF b f t' (.inRegion ops2 (i :: r) :: k2) .run) cs cs' base base' w w' ∨
      Bad (mkF f t (.inRegion ops (i :: r) :: k) .run) (cs ++ base) (stepG P m (G (mkF f t (.inRegion ops (i :: r) :: k) .run) (cs ++ base)) w) := by
  have hwt2 := hwt
  rw [hy] at hwt2
  have hek : ((gF b f t' (.inRegion ops2 (i :: r) :: k2) .run).kind == CallKind.early) = false := by simpa [gF] using h4
  have hs := exec_sr hF.ok (fun f h => h) hg (fr := mkF f t (.inRegion ops (i :: r) :: k) .run) (fr' := gF b f t' (.inRegion ops2 (i :: r) :: k2) .run) ht hoo
  have e1 : stepG P m (G (mkF f t (.inRegion ops (i :: r) :: k) .run) (cs ++ base)) w = stepG.apply P true (mkF f t (.inRegion ops (i :: r) :: k) .run) (cs ++ base) none (execOp (mkF f t (.inRegion ops (i :: r) :: k) .run).eval o) w := by
    simp [stepG, stepG.exec, stepG.oper, G, mkF, ho, hwt, Frame.oper?]
  have e2 : stepG P m' (G (gF b f t' (.inRegion ops2 (i :: r) :: k2) .run) (cs' ++ base')) w' = stepG.apply P true (gF b f t' (.inRegion ops2 (i :: r) :: k2) .run) (cs' ++ base') none (execOp (gF b f t' (.inRegion ops2 (i :: r) :: k2) .run).eval o) w' := by
    simp [stepG, stepG.exec, stepG.oper, G, gF, ho2, hwt2, Frame.oper?]
  have hu : used P (gF b f t' (.inRegion ops2 (i :: r) :: k2) .run) w' = ((execOp (gF b f t' (.inRegion ops2 (i :: r) :: k2) .run).eval o).runT P w' #[]).1.w.drawn - w'.drawn := by
    have : ops2.getD i default = o := by rw [Array.getD_eq_getD_getElem?, ho2]; rfl
    unfold used
    simp only [gF, List.cons_append, this, ho2, Option.map_some, Option.getD_some, hwt2, if_true]
  rw [hu] at hA
  rw [e1]
  unfold Both
  simp only [e1, e2]
  cases hr : (execOp (mkF f t (.inRegion ops (i :: r) :: k) .run).eval o).runT P w #[] with
  | mk res es =>
    cases res with
    | ok nx u =>
      obtain ⟨ρ1, nx', u', f', g1, g2, g3⟩ := hs.runT hw #[] #[] hA hr
      have hfr : FR L P ρ1 up b (mkF f t (.inRegion ops (i :: r) :: k) .run) (gF b f t' (.inRegion ops2 (i :: r) :: k2) .run) := hfr0.ext g3.ext
      have hd : u'.drawn = w'.drawn + used P (gF b f t' (.inRegion ops2 (i :: r) :: k2) .run) w' := by
        rw [hu, g1]
        obtain ⟨d, _, d2⟩ := g3.drawn
        show _ = _ + (u'.drawn - w'.drawn)
        omega
      refine .inl ?_
      cases g2 with
      | value hv =>
        exact ⟨ρ1, _, _, cs, cs', u, u', _, _, by simp only [stepG.apply, if_true, hr]; rfl, by simp only [stepG.apply, if_true, g1, hek]; rfl, hh ρ1 g3.ext _ _ (hfr.finish (by simp [mkF]) hnn hv).1, g3.seen f, hd⟩
      | skip =>
        exact ⟨ρ1, _, _, cs, cs', u, u', _, _, by simp only [stepG.apply, if_true, hr]; rfl, by simp only [stepG.apply, if_true, g1, hek]; rfl, hh ρ1 g3.ext _ _ (hfr.finish (by simp [mkF]) hnn undef_vr).1, g3.seen f, hd⟩
      | @enter fn a a' hfn ha =>
        exact ⟨ρ1, _, _, _ :: cs, _ :: cs', u, u', _, _, by simp only [stepG.apply, if_true, hr]; rfl, by simp only [stepG.apply, if_true, g1, hek]; rfl, .cons (enter_fr hF hfn ha).1 (by
          intro x hx
          simp only [List.head?_cons, Option.some.injEq] at hx
          subst hx
          refine ⟨rfl, by simp [mkF], fun n og oq r' eB et => ?_⟩
          simp only [mkF, List.cons.injEq, Item.inRegion.injEq] at et
          obtain ⟨⟨rfl, rfl, _⟩, _⟩ := et
          obtain ⟨o', v, e3, e4⟩ := hB _ _ _ eB
          rw [ho] at e3
          obtain rfl := Option.some.inj e3
          have hex : ∀ (e : Operand → Value), execOp e o = Pure.pure (.value (e (.const v))) := fun e => by unfold execOp; rw [e4]
          rw [hex] at hr
          cases hr) (hh ρ1 g3.ext _ _ hfr), g3.seen f, hd⟩
    | halt x u =>
      have htame := hs.haltT hw #[] hr
      refine .inr ?_
      cases x with
      | panic v => simp only [stepG.apply, if_true, hr]; exact ⟨rfl, rfl, .inr ⟨rfl, rfl, _, rfl⟩⟩
      | goexit => simp only [stepG.apply, if_true, hr]; exact ⟨rfl, rfl, .inr ⟨rfl, rfl, _, rfl⟩⟩
      | blocked => simp only [stepG.apply, if_true, hr]; exact ⟨rfl, rfl, .inl ⟨rfl, .inl rfl⟩⟩
      | waiting => simp only [stepG.apply, if_true, hr]; exact ⟨rfl, rfl, .inl ⟨rfl, .inr rfl⟩⟩
      | exit c => simp only [stepG.apply, if_true, hr]; exact trivial
      | stuck m => simp only [stepG.apply, if_true, hr]; exact trivial
      | fatal m => exact htame.elim
      | throw m => exact htame.elim
      | unsupported u => cases u <;> first | exact htame.elim | (simp only [stepG.apply, if_true, hr]; exact trivial)
theorem FunsB.res (hF : FunsB P L) {f : FuncId} (hf : f ∈ L) : ∃ fn, P.funcs[f]? = some fn ∧ resB fn = true := by
  have := hF f hf
  unfold funB at this
  split at this
  · next fn hfn =>
    simp only [Bool.and_eq_true] at this
    exact ⟨fn, hfn, this.1.2⟩
  · cases this
theorem sim_run (hF : FunsB P L) (hg : ρ.glob = P.globals.size) (hw : WR (· ∈ L) ρ w w') (hh : Hold L P ρ up b B cs cs') (h0 : FnAt P b f) (h1 : up = true → f ∈ L ∧ b = bot0) (h4 : b.kd ≠ .early) (h7 : b.sp = none) (hB : ∀ n og oq, B.sp = some (n, og, oq) → ∃ o v, og[n]? = some o ∧ o.op = .assign (.const v)) (ht : RR (· ∈ L) ρ t t')
    {x : Item} {k : List Item} (hi : ∀ y ∈ x :: k, itemOk P L up y = true) (hA : Agree w w' (used P (gF b f t' (x :: k) .run) w')) :
    Both L P ρ B m m' (mkF f t (x :: k) .run) (gF b f t' (x :: k) .run) cs cs' base base' w w' ∨ Bad (mkF f t (x :: k) .run) (cs ++ base) (stepG P m (G (mkF f t (x :: k) .run) (cs ++ base)) w) := by
  have hk : ∀ y ∈ k, itemOk P L up y = true := fun y hy => hi y (by simp [hy])
  have hx := hi x (by simp)
  have two : ∀ {a c : Item}, itemOk P L up a = true → itemOk P L up c = true → ∀ y ∈ a :: c :: k, itemOk P L up y = true := fun ha hb' y hy => by
    simp only [List.mem_cons] at hy
    rcases hy with rfl | rfl | hy
    · exact ha
    · exact hb'
    · exact hk y hy
  have one : ∀ {a : Item}, itemOk P L up a = true → ∀ y ∈ a :: k, itemOk P L up y = true := fun ha y hy => by
    simp only [List.mem_cons] at hy
    rcases hy with rfl | hy
    · exact ha
    · exact hk y hy
  have R : Live FrameMode.run := .inl rfl
  have R' : up = false → FrameMode.run = .run := fun _ => rfl
  cases x with
  | code c =>
    cases c with
    | skip => exact .inl (Both.to hw hh h0 h1 h4 h7 ht k .run rfl R R' hk rfl rfl)
    | label l => exact .inl (Both.to hw hh h0 h1 h4 h7 ht k .run rfl R R' hk rfl rfl)
    | ret =>
      have hup : up = true := hx
      subst hup
      exact .inl (Both.to hw hh h0 h1 h4 h7 ht (.code .ret :: k) .returning rfl (.inr rfl) (fun c => by cases c) hi rfl rfl)
    | seq a c =>
      simp only [itemOk, codeOk, Bool.and_eq_true] at hx
      exact .inl (Both.to hw hh h0 h1 h4 h7 ht (.code a :: .code c :: k) .run rfl R R' (two hx.1 hx.2) rfl rfl)
    | cond c a d =>
      simp only [itemOk, codeOk, Bool.and_eq_true] at hx
      have hv := opd_vr (L := L) (ok := (· ∈ L)) (fun f h => h) (fr := mkF f t (.code (.cond c a d) :: k) .run) (fr' := gF b f t' (.code (.cond c a d) :: k) .run) ht hx.1.1
      generalize hev : (mkF f t (.code (.cond c a d) :: k) .run).eval c = v at hv
      generalize hev' : (gF b f t' (.code (.cond c a d) :: k) .run).eval c = v' at hv
      simp only [mkF] at hev
      simp only [gF, List.cons_append] at hev'
      cases hv with
      | bool y =>
        refine .inl (Both.to hw hh h0 h1 h4 h7 ht (.code (if y then a else d) :: k) .run rfl R R' (one ?_) (by simp only [stepG, stepG.exec, G, mkF, hev]) (by simp only [stepG, stepG.exec, G, gF, List.cons_append, hev']))
        cases y
        · exact hx.2
        · exact hx.1.2
      | _ => exact .inr (by simp only [stepG, stepG.exec, G, mkF, hev, Bad])
    | block id c => exact .inl (Both.to hw hh h0 h1 h4 h7 ht (.code c :: .inBlock id :: k) .run rfl R R' (two hx rfl) rfl rfl)
    | loop c => exact .inl (Both.to hw hh h0 h1 h4 h7 ht (.code c :: .inLoop c :: k) .run rfl R R' (two hx hx) rfl rfl)
    | scope c => exact .inl (Both.to hw hh h0 h1 h4 h7 ht (.code c :: .inScope c :: k) .run rfl R R' (two hx hx) rfl rfl)
    | exit id =>
      cases he : exitTo id k with
      | none => exact .inr (by simp [stepG, stepG.exec, G, mkF, he, Bad])
      | some k' => exact .inl (Both.to hw hh h0 h1 h4 h7 ht k' .run rfl R R' (exit_items he hk) (by simp [stepG, stepG.exec, G, mkF, he]) (by simp [stepG, stepG.exec, G, gF, exitTo_app b.k he]))
    | goto id =>
      cases he : gotoIn id k with
      | none => exact .inr (by simp [stepG, stepG.exec, G, mkF, he, Bad])
      | some k' => exact .inl (Both.to hw hh h0 h1 h4 h7 ht k' .run rfl R R' (goto_items he hk) (by simp [stepG, stepG.exec, G, mkF, he]) (by simp [stepG, stepG.exec, G, gF, gotoIn_app b.k he]))
    | region id ops draw =>
      cases draw with
      | false => exact .inl (Both.to hw hh h0 h1 h4 h7 ht (.inRegion ops (List.range ops.size) :: k) .run rfl R R' (one hx) rfl rfl)
      | true =>
        have hA1 : Agree w w' 1 := hA
        have ht0 := hA1 0 (by omega) (.order f id)
        simp only [Nat.add_zero] at ht0
        have o1 : Out (· ∈ L) ρ ρ w w' { w with drawn := w.drawn + 1 } { w' with drawn := w'.drawn + 1 } #[] #[] :=
          ⟨Ext.refl ρ, fun _ _ _ => Iff.rfl, ⟨hw.blk, hw.glob, hw.shut⟩, fun b hb => .inl hb, fun b hb => hw.lt hb, fun _ _ _ => rfl, fun _ _ => .inl rfl, rfl, rfl, rfl, rfl, ⟨1, rfl, rfl⟩, Nat.le_refl _, Nat.le_refl _, [], by simp, fun e he => by cases he⟩
        refine .inl ⟨ρ, mkF f t (.inRegion ops (Region.schedule (P.follows .mixedOrders) ops (w.tape w.drawn (.order f id))) :: k) .run, gF b f t' (.inRegion ops (Region.schedule (P.follows .mixedOrders) ops (w.tape w.drawn (.order f id))) :: k) .run, cs, cs', _, _, _, _, rfl, ?_, hh ρ (Ext.refl ρ) _ _ (.mk f _ .run h0 h1 R' R h4 (one hx) ht h7), o1, rfl⟩
        rw [ht0]; rfl
    | _ => cases hx
  | inBlock id => exact .inl (Both.to hw hh h0 h1 h4 h7 ht k .run rfl R R' hk rfl rfl)
  | inScope c => exact .inl (Both.to hw hh h0 h1 h4 h7 ht k .run rfl R R' hk rfl rfl)
  | inLoop c => exact .inl (Both.to hw hh h0 h1 h4 h7 ht (.code c :: .inLoop c :: k) .run rfl R R' (two hx hx) rfl rfl)
  | inRegion ops td =>
    cases td with
    | nil => exact .inl (Both.to hw hh h0 h1 h4 h7 ht k .run rfl R R' hk rfl rfl)
    | cons i r =>
      cases ho : ops[i]? with
      | none =>
        refine .inl (Both.fin hw hh (.mk f _ .run h0 h1 R' R h4 hi ht h7) (by simp [mkF]) (NotNow.none h7 _) ?_ ?_ ?_)
        · simp only [stepG, stepG.exec, G, mkF, ho]; rfl
        · simp only [stepG, stepG.exec, G, gF, List.cons_append, ho]; rfl
        · simp only [used, gF, List.cons_append, ho]; rfl
      | some o =>
        by_cases hwt : Region.wanted o (yielded ops t) = true
        · exact sim_op hF hg hw hh h4 ht (.mk f _ .run h0 h1 R' R h4 hi ht h7) (NotNow.none h7 _) hB hA ho ho (by
            simp only [itemOk, List.all_eq_true] at hx
            exact hx o (Array.mem_toList_iff.2 (Array.mem_of_getElem? ho))) hwt (wanted_eq ht ops)
        · have hwt' := hwt
          rw [wanted_eq ht] at hwt'
          refine .inl (Both.fin hw hh (.mk f _ .run h0 h1 R' R h4 hi ht h7) (by simp [mkF]) (NotNow.none h7 _) ?_ ?_ ?_)
          · simp only [stepG, stepG.exec, G, mkF, ho, Option.map_some, Option.getD_some, hwt]; rfl
          · simp only [stepG, stepG.exec, G, gF, List.cons_append, ho, Option.map_some, Option.getD_some, hwt']; rfl
          · simp only [used, gF, List.cons_append, ho, Option.map_some, Option.getD_some, hwt']; rfl
  | _ => cases hx
end
/-- the operation that is stepped by hand is next -/
def AtSp (B : Bot) (s : Frame) (cs : List Frame) : Prop := cs = [] ∧ ∃ n og oq r, B.sp = some (n, og, oq) ∧ s.todo = [.inRegion og (n :: r)]
theorem schedule_eq {mixed : Bool} {og oq : Array Oper} {n : Nat} (h : SpOk n og oq) (t : Nat) : Region.schedule mixed og t = Region.schedule mixed oq t := by
  have ha : ∀ i : Nat, (og[i]?).map (fun o : Oper => o.after) = (oq[i]?).map (fun o : Oper => o.after) := fun i => by
    have := congrArg (Option.map fun x : Option Tmp × Array Edge × Option (Nat × Bool) => x.2.1) (h.key i)
    simpa [Option.map_map, Function.comp_def] using this
  have hgo : ∀ (md : Region.Mode) (fuel t : Nat) (listed : Array Bool) (acc : List Nat), Region.linearise.go md og fuel t listed acc = Region.linearise.go md oq fuel t listed acc := by
    intro md fuel
    induction fuel with
    | zero => intro t listed acc; rfl
    | succ fuel ih =>
      intro t listed acc
      have hr : (List.range og.size).filter (fun i => !listed.getD i true && ((og[i]?).map (·.after.all fun e => !Region.binds md e || listed.getD e.on false)).getD false) =
          (List.range oq.size).filter (fun i => !listed.getD i true && ((oq[i]?).map (·.after.all fun e => !Region.binds md e || listed.getD e.on false)).getD false) := by
        rw [h.size]
        congr 1
        funext i
        have := congrArg (Option.map fun x : Array Edge => x.all fun e => !Region.binds md e || listed.getD e.on false) (ha i)
        simp only [Option.map_map, Function.comp_def] at this
        rw [this]
      simp only [Region.linearise.go, hr]
      split
      · exact ih _ _ _
      · rfl
  have hlin : ∀ md t, Region.linearise md og t = Region.linearise md oq t := fun md t => by
    unfold Region.linearise
    rw [h.size]
    exact hgo md _ _ _ _
  have hdep : Region.departs og = Region.departs oq := by
    unfold Region.departs
    rw [← Array.any_toList, ← Array.any_toList]
    have : ∀ (x y : Array Oper), x.size = y.size → (∀ i : Nat, (x[i]?).map (fun o : Oper => o.after) = (y[i]?).map (fun o : Oper => o.after)) → x.toList.map (fun o : Oper => o.after) = y.toList.map (fun o : Oper => o.after) := by
      intro x y _ hxy
      apply List.ext_getElem?
      intro i
      simpa using hxy i
    have h2 := this og oq h.size ha
    have e1 : ∀ x : Array Oper, (x.toList.any fun o => o.after.any fun e => !Region.binds .any e) = ((x.toList.map fun o : Oper => o.after).any fun a => a.any fun e => !Region.binds .any e) := fun x => by
      rw [List.any_map]; rfl
    rw [e1, e1, h2]
  unfold Region.schedule
  rw [hdep, hlin, hlin]
theorem SK.nop {B : Bot} {l l' : List Frame} (h : SK L P ρ B l l') : ∀ n og oq, B.sp = some (n, og, oq) → ∃ o v, og[n]? = some o ∧ o.op = .assign (.const v) := by
  induction h with
  | bot h1 =>
    intro n og oq e
    cases h1 with
    | mk f pre mode h0 h1 h2 h3 h4 h5 h6 h7 => rw [h7] at e; cases e
    | sp f h0 h4 h1 h2 h3 h5 h6 =>
      rw [h1] at e
      simp only [Option.some.injEq, Prod.mk.injEq] at e
      obtain ⟨rfl, rfl, rfl⟩ := e
      exact h2.nop
  | cons _ _ _ ih => exact ih
theorem sim_sp (hF : FunsB P L) (hg : ρ.glob = P.globals.size) {B : Bot} {w w' : World} (hw : WR (· ∈ L) ρ w w') {f : FuncId} {t t' : Array Value} {base base' : List Frame} {m m' : Bool} {n : Nat} {og oq : Array Oper} {pre pre2 : List Item}
    (h0 : FnAt P B f) (h4 : B.kd ≠ .early) (h1 : B.sp = some (n, og, oq)) (h2 : SpOk n og oq) (h3 : SpForm n og oq pre pre2) (h5 : ∀ o ∈ og.toList, opOk P L o.op = true) (h6 : RR (· ∈ L) ρ t t')
    (hA : Agree w w' (used P (gF B f t' pre2 .run) w')) (hb : ¬ AtSp B (mkF f t pre .run) []) :
    Both L P ρ B m m' (mkF f t pre .run) (gF B f t' pre2 .run) [] [] base base' w w' ∨ Bad (mkF f t pre .run) ([] ++ base) (stepG P m (G (mkF f t pre .run) ([] ++ base)) w) := by
  have hold : Hold L P ρ false B B [] [] := fun ρ1 _ a a' h => .bot h
  have hself : FR L P ρ false B (mkF f t pre .run) (gF B f t' pre2 .run) := .sp f h0 h4 h1 h2 h3 h5 h6
  cases h3 with
  | code id =>
    have hA1 : Agree w w' 1 := hA
    have ht0 := hA1 0 (by omega) (.order f id)
    simp only [Nat.add_zero] at ht0
    have o1 : Out (· ∈ L) ρ ρ w w' { w with drawn := w.drawn + 1 } { w' with drawn := w'.drawn + 1 } #[] #[] :=
      ⟨Ext.refl ρ, fun _ _ _ => Iff.rfl, ⟨hw.blk, hw.glob, hw.shut⟩, fun b hb => .inl hb, fun b hb => hw.lt hb, fun _ _ _ => rfl, fun _ _ => .inl rfl, rfl, rfl, rfl, rfl, ⟨1, rfl, rfl⟩, Nat.le_refl _, Nat.le_refl _, [], by simp, fun e he => by cases he⟩
    refine .inl ⟨ρ, mkF f t [.inRegion og (Region.schedule (P.follows .mixedOrders) og (w.tape w.drawn (.order f id)))] .run, gF B f t' [.inRegion oq (Region.schedule (P.follows .mixedOrders) og (w.tape w.drawn (.order f id)))] .run, [], [], _, _, _, _, rfl, ?_, .bot (.sp f h0 h4 h1 h2 (.reg _ (OrdInv.start _ _) (h2.lists _ _)) h5 h6), o1, rfl⟩
    rw [schedule_eq h2, ht0]; rfl
  | reg l hl hm =>
    cases l with
    | nil => cases hm
    | cons i r =>
      have hin0 : i ≠ n := fun e => hb ⟨rfl, n, og, oq, r, h1, by rw [e]; rfl⟩
      have hnn : NotNow B (mkF f t [.inRegion og (i :: r)] .run) := fun n' og' oq' r' e et => by
        rw [h1] at e
        simp only [Option.some.injEq, Prod.mk.injEq] at e
        obtain ⟨rfl, rfl, rfl⟩ := e
        simp only [mkF, List.cons.injEq, Item.inRegion.injEq, true_and, and_true] at et
        exact hin0 et.1
      have hBs : ∀ n' og' oq', B.sp = some (n', og', oq') → ∃ o v, og'[n']? = some o ∧ o.op = .assign (.const v) := fun n' og' oq' e => by
        rw [h1] at e
        simp only [Option.some.injEq, Prod.mk.injEq] at e
        obtain ⟨rfl, rfl, rfl⟩ := e
        exact h2.nop
      have hyd : yielded og t = yielded oq t' := (wanted_eq h6 og).trans (yielded_dst h2.dst t')
      have hk := h2.key i
      cases ho : og[i]? with
      | none =>
        have ho2 : oq[i]? = none := by
          rw [ho] at hk
          cases hc : oq[i]? with
          | none => rfl
          | some o => rw [hc] at hk; cases hk
        refine .inl (Both.fin hw hold hself (by simp [mkF]) hnn ?_ ?_ ?_)
        · simp only [stepG, stepG.exec, G, mkF, ho]; rfl
        · simp only [stepG, stepG.exec, G, gF, List.cons_append, ho2]; rfl
        · simp only [used, gF, List.cons_append, ho2]; rfl
      | some o =>
        rw [ho] at hk
        cases ho2 : oq[i]? with
        | none => rw [ho2] at hk; cases hk
        | some o2 =>
          rw [ho2] at hk
          simp only [Option.map_some, Option.some.injEq, Prod.mk.injEq] at hk
          have hwe : Region.wanted o2 (yielded oq t') = Region.wanted o (yielded og t) := by
            rw [← hyd]; unfold Region.wanted; rw [hk.2.2]
          by_cases hwt : Region.wanted o (yielded og t) = true
          · have hin : i ≠ n := fun e => hb ⟨rfl, n, og, oq, r, h1, by subst e; rfl⟩
            have e2 : o2 = o := by
              have := h2.same i hin
              rw [ho, ho2] at this
              exact (Option.some.inj this).symm
            subst e2
            exact sim_op hF hg hw hold h4 h6 hself hnn hBs hA ho ho2 (h5 _ (Array.mem_toList_iff.2 (Array.mem_of_getElem? ho))) hwt hyd
          · have hwt' := hwt
            rw [← hwe] at hwt'
            refine .inl (Both.fin hw hold hself (by simp [mkF]) hnn ?_ ?_ ?_)
            · simp only [stepG, stepG.exec, G, mkF, ho, Option.map_some, Option.getD_some, hwt]; rfl
            · simp only [stepG, stepG.exec, G, gF, List.cons_append, ho2, Option.map_some, Option.getD_some, hwt']; rfl
            · simp only [used, gF, List.cons_append, ho2, Option.map_some, Option.getD_some, hwt']; rfl
/-- ONE STEP IN TWO WORLDS: the foot has something left to do -/
theorem sim (hF : FunsB P L) (hg : ρ.glob = P.globals.size) {B : Bot} {w w' : World} (hw : WR (· ∈ L) ρ w w') {fr fr' : Frame} {cs cs' base base' : List Frame} (hs : SK L P ρ B (fr :: cs) (fr' :: cs')) (hb : cs = [] → fr.todo ≠ []) (hsp : ¬ AtSp B fr cs)
    (hA : Agree w w' (used P fr' w')) (m m' : Bool) : Both L P ρ B m m' fr fr' cs cs' base base' w w' ∨ Bad fr (cs ++ base) (stepG P m (G fr (cs ++ base)) w) := by
  cases hs with
  | bot hfr =>
    cases hfr with
    | @mk _ _ f t t' pre mode h0 h1 h2 h3 h4 h5 h6 h7 =>
      obtain rfl := h2 rfl
      cases pre with
      | nil => exact absurd rfl (hb rfl)
      | cons x k => exact sim_run hF hg hw (fun ρ1 _ a a' h => .bot h) h0 h1 h4 h7 (fun n og oq e => by rw [h7] at e; cases e) h6 h5 hA
    | @sp _ f t t' n og oq pre pre2 h0 h4 h1 h2 h3 h5 h6 => exact sim_sp hF hg hw h0 h4 h1 h2 h3 h5 h6 hA hsp
  | cons hfr hhd hl =>
    have hold : Hold L P ρ true bot0 B cs cs' := fun ρ1 e a a' h => .cons h hhd (hl.ext e)
    cases hfr with
    | @mk _ _ f t t' pre mode h0 h1 h2 h3 h4 h5 h6 h7 =>
      rcases h3 with rfl | rfl
      · cases pre with
        | nil => exact .inl (Both.to hw hold h0 h1 h4 (by rw [(h1 rfl).2]; rfl) h6 [] .returning rfl (.inr rfl) (fun c => by cases c) (by simp) rfl rfl)
        | cons x k => exact sim_run hF hg hw hold h0 h1 h4 h7 hl.nop h6 h5 hA
      · obtain ⟨fn, hfn, hres⟩ := hF.res (h1 rfl).1
        have hv := res_vr fn h6
        obtain ⟨a, l, a', l', rfl, rfl⟩ := hl.split
        have hh := hl.finish (hhd a rfl).2.1 (hhd a rfl).2.2 hv
        refine .inl ⟨ρ, a.finish (resV fn t), a'.finish (resV fn t'), l, l', w, w', seen P f #[], seen P f #[], ?_, ?_, hh, (Out.refl hw #[]).seen f, rfl⟩
        · simp only [stepG, G, mkF, unwind, doReturn, hfn, res_eq hres]; rfl
        · simp only [stepG, G, gF, bot0, unwind, doReturn, hfn, res_eq hres]; rfl
end Co
end

section
namespace Co
open Go Go.Conc
variable {L : List FuncId} {P : Program} {ρ : Ren}

/-- the frame below: what comes back to it, or unwinds to it, ends the run -/
def c0 : Frame := { fn := 0, tmps := #[], todo := [.code (.refuse "")], defers := [{ target := .nil, args := #[] }], mode := .run, kind := .normal }
theorem runN_ended {m m' : Machine} {o : Outcome} {w : World} (h : step P m = .ended o w) (n : Nat) : runN P (n + 1) m ≠ .next m' := by
  simp [runN, h]
theorem runN_next {m m1 : Machine} (h : step P m = .next m1) (n : Nat) : runN P (n + 1) m = runN P n m1 := by
  simp [runN, h]
theorem c0_run (u : World) : ∃ o w, step P (lone c0 [] u) = .ended o w := ⟨_, _, step_lone_ended (by simp [stepG, stepG.exec, c0]; exact ⟨rfl, rfl⟩)⟩
theorem c0_panic (ch : List PanicEntry) (u : World) : ∃ o w, step P (lone { c0 with mode := .panicking ch } [] u) = .ended o w := ⟨_, _, step_lone_ended (by simp [stepG, unwind, callDeferred, c0]; exact ⟨rfl, rfl⟩)⟩
theorem lone_ne {fr fr' : Frame} {cs cs' : List Frame} {w w' : World} (h : lone fr cs w = lone fr' cs' w') : fr = fr' ∧ cs = cs' ∧ w = w' := by
  simp only [lone, Machine.mk.injEq, Array.mk.injEq, List.cons.injEq, Goroutine.mk.injEq, and_true, true_and] at h
  exact ⟨h.2.1, h.2.2, h.1⟩
theorem lost_never {B : Bot} : ∀ {l l' : List Frame} (_ : SK L P ρ B l l') (n : Nat) {φ : Frame} {γ : List Frame} (_ : l = φ :: γ) (ch : List PanicEntry) (u : World) {fr : Frame} {w : World} (_ : fr.mode = .run),
    runN P n (lone { φ with mode := .panicking ch } (γ ++ [c0]) u) ≠ .next (lone fr [c0] w) := by
  intro l l' hl
  induction hl with
  | bot hφ =>
    intro n φ γ e ch u fr w hm
    simp only [List.cons.injEq] at e
    obtain ⟨rfl, rfl⟩ := e
    cases n with
    | zero =>
      intro c
      simp only [runN, Stepped.next.injEq] at c
      obtain ⟨c1, _, _⟩ := lone_ne c
      rw [← c1] at hm; cases hm
    | succ n =>
      rename_i a a'
      have hs : step P (lone { a with mode := .panicking ch } ([] ++ [c0]) u) = .next (lone { c0 with mode := .panicking ch } [] u) := by
        cases hφ with
        | mk f pre mode h0 _ _ _ _ _ _ _ =>
          obtain ⟨fn, hfn⟩ := h0.ex
          exact step_leave_panicked ⟨rfl, rfl, fn, hfn⟩
        | sp f h0 _ _ _ _ _ _ =>
          obtain ⟨fn, hfn⟩ := h0.ex
          exact step_leave_panicked ⟨rfl, rfl, fn, hfn⟩
      rw [runN_next hs]
      cases n with
      | zero =>
        intro c
        simp only [runN, Stepped.next.injEq] at c
        obtain ⟨_, c2, _⟩ := lone_ne c
        cases c2
      | succ n =>
        obtain ⟨o, w', h⟩ := c0_panic (P := P) ch u
        exact runN_ended h n
  | @cons a a' l l' hφ hhd hl ih =>
    intro n φ γ e ch u fr w hm
    simp only [List.cons.injEq] at e
    obtain ⟨rfl, rfl⟩ := e
    cases n with
    | zero =>
      intro c
      simp only [runN, Stepped.next.injEq] at c
      obtain ⟨c1, _, _⟩ := lone_ne c
      rw [← c1] at hm; cases hm
    | succ n =>
      obtain ⟨x, k, x', k', rfl, rfl⟩ := hl.split
      have hs : step P (lone { a with mode := .panicking ch } (x :: k ++ [c0]) u) = .next (lone { x with mode := .panicking ch } (k ++ [c0]) u) := by
        have hra : x.raise ch = { x with mode := .panicking ch } := by unfold Frame.raise; rw [(hhd x rfl).1]
        cases hφ with
        | mk f pre mode h0 _ _ _ _ _ _ _ =>
          obtain ⟨fn, hfn⟩ := h0.ex
          rw [← hra]
          exact step_leave_panicked ⟨rfl, rfl, fn, hfn⟩
      rw [runN_next hs]
      exact ih n rfl ch u hm
/-- behind the end of the stretch the run does not come to its end again -/
theorem past_end {f : FuncId} (h0 : ∃ fn, P.funcs[f]? = some fn) (t : Array Value) (u : World) (n : Nat) {fr : Frame} {w : World} (hm : fr.mode = .run) : runN P (n + 1) (lone (mkF f t [] .run) [c0] u) ≠ .next (lone fr [c0] w) := by
  obtain ⟨fn, hfn⟩ := h0
  have hs : step P (lone (mkF f t [] .run) [c0] u) = .next (lone (mkF f t [] .returning) [c0] u) := step_lone_go (by simp [stepG, stepG.exec, mkF])
  rw [runN_next hs]
  cases n with
  | zero =>
    intro c
    simp only [runN, Stepped.next.injEq] at c
    obtain ⟨c1, _, _⟩ := lone_ne c
    rw [← c1] at hm; cases hm
  | succ n =>
    cases hr : (results fn t).run P u with
    | halt x u' =>
      have hs2 : ∃ o w, step P (lone (mkF f t [] .returning) [c0] u) = .ended o w := by
        cases x <;> exact ⟨_, _, step_lone_ended (by simp [stepG, unwind, mkF, hfn, hr]; exact ⟨rfl, rfl⟩)⟩
      obtain ⟨o, w', hs2⟩ := hs2
      exact runN_ended hs2 n
    | ok v u' =>
      have hs2 : step P (lone (mkF f t [] .returning) [c0] u) = .next (lone c0 [] u') := step_lone_go (by simp [stepG, unwind, doReturn, mkF, hfn, hr]; rfl)
      rw [runN_next hs2]
      cases n with
      | zero =>
        intro c
        simp only [runN, Stepped.next.injEq] at c
        obtain ⟨_, c2, _⟩ := lone_ne c
        cases c2
      | succ n =>
        obtain ⟨o, w', he⟩ := c0_run (P := P) u'
        exact runN_ended he n
/-- one goroutine that waits: the run ends, or stands -/
theorem blocked_step (g : Goroutine) (hg : g.status = .blocked ∨ g.status = .waiting) (u : World) :
    (∃ o w, step P { world := u, gs := #[g], rest := { timers := #[], alone := none, slice := none } } = .ended o w) ∨ step P { world := u, gs := #[g], rest := { timers := #[], alone := none, slice := none } } = .next { world := u, gs := #[g], rest := { timers := #[], alone := none, slice := none } } := by
  rcases hg with hg | hg
  · refine .inl ?_
    unfold step stepT
    simp [move, ask, askOn, runnable_eq, due, ahead, Goroutine.canRun, List.range_succ, choose, pure, Sem.run, Question.forced, hg]
    generalize endWith _ _ _ _ = z
    cases z <;> exact ⟨_, _, rfl⟩
  · refine .inr ?_
    unfold step stepT
    simp [move, ask, askOn, runnable_eq, due, ahead, Goroutine.canRun, List.range_succ, choose, pure, Sem.run, Question.forced, hg]
end Co
end
