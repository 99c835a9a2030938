/- PLAIN LAW of the model: its operations do alike in two worlds that part in the numbers of their blocks (no program text in sight). · PLAIN LAW of the model: its operations do alike in two worlds that part in the numbers of their blocks, gone on with (no program text in sight). · PLAIN LAW of the model: append, arithmetic, conversions, calls do alike in two worlds that part in the numbers of their blocks (no program text in sight). -/
import Derived.Test.YtienepcknafddaaDoorM7
set_option linter.unusedVariables false
set_option linter.unusedSimpArgs false
section
namespace Co
open Go
variable {ok : FuncId → Prop} {P : Program} {ρ : Ren}

abbrev SV (ok : FuncId → Prop) (P : Program) (ρ : Ren) (s s' : Sem Value) : Prop := SR ok P (fun ρ v v' => VR ok ρ v v') ρ s s'
theorem SR.ret {α β : Type} {A : Ren → α → β → Prop} {a : α} {b : β} (h : A ρ a b) : SR ok P A ρ (Pure.pure a) (Pure.pure b) := SR.pure h
theorem SR.bnd {α β γ δ : Type} {A : Ren → α → β → Prop} {B : Ren → γ → δ → Prop} {s : Sem α} {s' : Sem β} {f : α → Sem γ} {f' : β → Sem δ} (h : SR ok P A ρ s s')
    (hf : ∀ ρ' a b, Ext ρ ρ' → A ρ' a b → SR ok P B ρ' (f a) (f' b)) : SR ok P B ρ (s >>= f) (s' >>= f') := SR.bind h hf
theorem SR.stuck {α β : Type} {A : Ren → α → β → Prop} {m : String} {s' : Sem β} : SR ok P A ρ (stuck m : Sem α) s' := SR.halt
theorem SR.unsup {α β : Type} {A : Ren → α → β → Prop} {m : Unsupported} {s' : Sem β} (hm : Tame (.unsupported m) := by exact True.intro) : SR ok P A ρ (unsupported m : Sem α) s' := SR.halt hm
theorem SR.run_dead {α β : Type} {A : Ren → α → β → Prop} {s : Sem α} {s' : Sem β} (h : Dead P s) : SR ok P A ρ s s' := .dead h
theorem dead_panic {α : Type} (v : Value) : Dead P (goPanic v : Sem α) := Dead.halt _
theorem dead_stuck {α : Type} (v : String) : Dead P (stuck v : Sem α) := Dead.halt _
theorem dead_unsup {α : Type} (v : Unsupported) (hm : Tame (.unsupported v) := by exact True.intro) : Dead P (unsupported v : Sem α) := Dead.halt _ hm
theorem Quiet.ch {α : Type} {q : Question} {k : Nat → Sem α} (h : ∀ n, Quiet P (k n)) : Quiet P (.choose q k) := fun w es x u f c => by
  simp only [Sem.runT] at c
  split at c
  · exact h _ _ _ _ _ _ c
  · exact h _ _ _ _ _ _ c
theorem quiet_halt {α : Type} (h : Halt) (ht : Tame h := by exact True.intro) : Quiet P (.halt h : Sem α) := (Dead.halt h ht).quiet
theorem quiet_stuck {α : Type} (m : String) : Quiet P (stuck m : Sem α) := quiet_halt _
theorem quiet_pure {α : Type} (a : α) : Quiet P (Pure.pure a : Sem α) := Quiet.pure a
theorem quiet_bind {α β : Type} {s : Sem α} {f : α → Sem β} (h : Quiet P s) (hf : ∀ a, Quiet P (f a)) : Quiet P (s >>= f) := Quiet.bind h hf
theorem quiet_prog : Quiet P program := Quiet.program fun _ => Quiet.pure _
theorem quiet_und (t : TypeId) : Quiet P (underlying t) := by
  refine quiet_bind quiet_prog fun p => ?_
  split
  · exact quiet_pure _
  · exact quiet_stuck _
theorem quiet_info (t : TypeId) : Quiet P (typeInfo t) := by
  refine quiet_bind quiet_prog fun p => ?_
  split
  · exact quiet_pure _
  · exact quiet_stuck _
theorem quiet_size (t : TypeId) : Quiet P (sizeOf t) := quiet_bind (quiet_info t) fun _ => quiet_pure _
theorem quiet_choose (q : Question) : Quiet P (choose q) := Quiet.ch fun _ => Quiet.pure _
theorem quiet_newVar (t : TypeId) (v : Value) : Quiet P (newVar t v) := quiet_bind (Quiet.new fun _ => Quiet.pure _) fun _ => quiet_pure _
theorem quiet_elemOf (t : TypeId) : Quiet P (elemOf t) := by
  refine quiet_bind (quiet_und t) fun d => ?_
  split
  · exact quiet_pure _
  · exact quiet_stuck _
theorem quiet_asInt (v : Value) : Quiet P (asInt v) := by
  refine quiet_bind ?_ fun _ => quiet_pure _
  unfold asIntOf
  split
  · exact quiet_pure _
  · exact quiet_halt _
  · exact quiet_stuck _
theorem quiet_room (n : Nat) : Quiet P (askRoom n) := by
  unfold askRoom
  split
  · exact Quiet.mark (Quiet.pure _)
  · exact quiet_pure _
theorem Quiet.shape {α : Type} {r : Nat} {k : Option (TypeId × Nat) → Sem α} (h : ∀ n, Quiet P (k n)) : Quiet P (.shape r k) := fun w es x u f c => h _ _ _ _ _ _ c
theorem quiet_frozen (a : Addr) : Quiet P (frozen a) := fun w es x u f c => Quiet.pure (P := P) (w.frozen? a) w es x u f c
theorem quiet_mark (m : Mark) : Quiet P (mark m) := Quiet.mark (Quiet.pure _)
theorem quiet_shape (r : Nat) : Quiet P (shape r) := Quiet.shape fun _ => Quiet.pure _
theorem dead_program {α : Type} {k : Program → Sem α} (h : ∀ p, Dead P (k p)) : Dead P (program >>= k) := Dead.then (Quiet.program fun _ => Quiet.pure _) h
theorem dead_rt {α : Type} (e : RuntimeError) : Dead P (runtimePanic e : Sem α) := by
  refine Dead.then quiet_prog fun p => ?_
  cases e with
  | bounds x y s c => exact dead_panic _
  | error m => exact dead_panic _
  | plain m => exact dead_panic _
  | nilDeref => exact dead_panic _
  | typeAssertion i c a m => exact (by refine Dead.then (by (first | exact quiet_prog | exact quiet_und _ | exact quiet_info _ | exact quiet_size _ | exact quiet_choose _ | exact quiet_newVar _ _ | exact quiet_elemOf _ | exact quiet_asInt _ | exact quiet_room _ | exact quiet_mark _ | exact quiet_shape _ | exact quiet_frozen _ | exact quiet_pure _ | exact quiet_bind (quiet_choose _) fun _ => quiet_pure _)) fun _ => ?_; refine Dead.then (by (first | exact quiet_prog | exact quiet_und _ | exact quiet_info _ | exact quiet_size _ | exact quiet_choose _ | exact quiet_newVar _ _ | exact quiet_elemOf _ | exact quiet_asInt _ | exact quiet_room _ | exact quiet_mark _ | exact quiet_shape _ | exact quiet_frozen _ | exact quiet_pure _ | exact quiet_bind (quiet_choose _) fun _ => quiet_pure _)) fun _ => ?_; exact dead_panic _)
  | panicNil => exact (by refine Dead.then (by (first | exact quiet_prog | exact quiet_und _ | exact quiet_info _ | exact quiet_size _ | exact quiet_choose _ | exact quiet_newVar _ _ | exact quiet_elemOf _ | exact quiet_asInt _ | exact quiet_room _ | exact quiet_mark _ | exact quiet_shape _ | exact quiet_frozen _ | exact quiet_pure _ | exact quiet_bind (quiet_choose _) fun _ => quiet_pure _)) fun _ => ?_; refine Dead.then (by (first | exact quiet_prog | exact quiet_und _ | exact quiet_info _ | exact quiet_size _ | exact quiet_choose _ | exact quiet_newVar _ _ | exact quiet_elemOf _ | exact quiet_asInt _ | exact quiet_room _ | exact quiet_mark _ | exact quiet_shape _ | exact quiet_frozen _ | exact quiet_pure _ | exact quiet_bind (quiet_choose _) fun _ => quiet_pure _)) fun _ => ?_; exact dead_panic _)
  | unhashable t => exact dead_panic _
theorem dead_bounds {α : Type} (k : IntKind) (x y : Int) (c : BoundsCode) : Dead P (boundsPanic k x y c : Sem α) := by
  unfold boundsPanic
  simp only
  split
  · exact (by refine Dead.then (by (first | exact quiet_prog | exact quiet_und _ | exact quiet_info _ | exact quiet_size _ | exact quiet_choose _ | exact quiet_newVar _ _ | exact quiet_elemOf _ | exact quiet_asInt _ | exact quiet_room _ | exact quiet_mark _ | exact quiet_shape _ | exact quiet_frozen _ | exact quiet_pure _ | exact quiet_bind (quiet_choose _) fun _ => quiet_pure _)) fun _ => ?_; exact dead_rt _)
  · exact (by refine Dead.then (by (first | exact quiet_prog | exact quiet_und _ | exact quiet_info _ | exact quiet_size _ | exact quiet_choose _ | exact quiet_newVar _ _ | exact quiet_elemOf _ | exact quiet_asInt _ | exact quiet_room _ | exact quiet_mark _ | exact quiet_shape _ | exact quiet_frozen _ | exact quiet_pure _ | exact quiet_bind (quiet_choose _) fun _ => quiet_pure _)) fun _ => ?_; exact dead_rt _)
theorem SR.rt {α β : Type} {A : Ren → α → β → Prop} {e : RuntimeError} {s' : Sem β} : SR ok P A ρ (runtimePanic e : Sem α) s' := .dead (dead_rt e)
theorem SR.bounds {α β : Type} {A : Ren → α → β → Prop} {k : IntKind} {x y : Int} {c : BoundsCode} {s' : Sem β} : SR ok P A ρ (boundsPanic k x y c : Sem α) s' := .dead (dead_bounds k x y c)

/-! ### what the program tells of its types -/
theorem info_sr (t : TypeId) : SR ok P (fun _ (a b : TypeInfo) => a = b ∧ P.info? t = some a) ρ (typeInfo t) (typeInfo t) := by
  refine SR.program ?_
  show SR ok P _ ρ (match P.info? t with | some i => Pure.pure i | none => Go.stuck "no such type") (match P.info? t with | some i => Pure.pure i | none => Go.stuck "no such type")
  cases h : P.info? t with
  | none => exact SR.stuck
  | some i => exact SR.ret ⟨rfl, rfl⟩
theorem und_sr (t : TypeId) : SR ok P (fun _ (a b : TypeDesc) => a = b ∧ P.underlying t = some a) ρ (underlying t) (underlying t) := by
  refine SR.program ?_
  show SR ok P _ ρ (match P.underlying t with | some i => Pure.pure i | none => Go.stuck "no such type") (match P.underlying t with | some i => Pure.pure i | none => Go.stuck "no such type")
  cases h : P.underlying t with
  | none => exact SR.stuck
  | some i => exact SR.ret ⟨rfl, rfl⟩
theorem size_sr (t : TypeId) : SR ok P (fun _ (a b : Nat) => a = b) ρ (sizeOf t) (sizeOf t) :=
  SR.bnd (info_sr t) fun _ a b _ h => SR.ret (by rw [h.1])
theorem isAgg_sr (t : TypeId) : SR ok P (fun _ (a b : Bool) => a = b) ρ (isAgg t) (isAgg t) := by
  refine SR.bnd (und_sr t) fun _ a b _ h => ?_
  obtain ⟨rfl, _⟩ := h
  cases a <;> exact SR.ret rfl
/-- a type whose zero value names no block -/
def ZeroOk (ok : FuncId → Prop) (P : Program) (t : TypeId) : Prop := ∀ i v, P.info? t = some i → i.zero = some v → ∀ ρ, VR ok ρ v v
theorem zero_sr {t : TypeId} (hz : ZeroOk ok P t) : SV ok P ρ (zeroValue t) (zeroValue t) := by
  refine SR.bnd (info_sr t) fun ρ' a b _ h => ?_
  obtain ⟨rfl, hi⟩ := h
  cases hv : a.zero with
  | none => exact SR.unsup
  | some v => exact SR.ret (hz a v hi hv ρ')

/-! ### memory -/
theorem load_sr {a a' : Addr} (h : AR ρ a a') : SV ok P ρ (load a) (load a') := SR.load h fun _ _ hv => SR.pure hv
theorem loadCells_sr {a a' : Addr} (n : Nat) : ∀ {ρ : Ren} (_ : AR ρ a a') (i : Nat) {acc acc' : Array Value} (_ : RR ok ρ acc acc'), SR ok P (fun ρ c c' => RR ok ρ c c') ρ (loadCellsFrom a i n acc) (loadCellsFrom a' i n acc') := by
  induction n with
  | zero => intro ρ h i acc acc' hr; exact SR.ret hr
  | succ n ih =>
    intro ρ h i acc acc' hr
    exact SR.bnd (load_sr (h.add i)) fun ρ' v v' e hv => ih (h.ext e) (i + 1) ((hr.ext e).push hv)
theorem loadVar_sr {a a' : Addr} (h : AR ρ a a') (t : TypeId) : SV ok P ρ (loadVar t a) (loadVar t a') := by
  refine SR.bnd (isAgg_sr t) fun ρ1 x y e1 hxy => ?_
  subst hxy
  cases x with
  | false => exact load_sr (h.ext e1)
  | true =>
    refine SR.bnd (size_sr t) fun ρ2 n m e2 hn => ?_
    subst hn
    exact SR.bnd (loadCells_sr n ((h.ext e1).ext e2) 0 RR.nil) fun ρ3 c c' _ hc => SR.ret hc.agg
theorem storeCells_sr {a a' : Addr} : ∀ {ρ : Ren} (_ : AR ρ a a') (l l' : List Value) (i : Nat) (_ : l.length = l'.length) (_ : ∀ (j : Nat) v v', l[j]? = some v → l'[j]? = some v' → VR ok ρ v v'), SR ok P (fun _ (_ _ : Unit) => True) ρ (storeCells a l i) (storeCells a' l' i) := by
  intro ρ h l
  induction l with
  | nil =>
    intro l' i hl hv
    obtain rfl : l' = [] := List.eq_nil_of_length_eq_zero hl.symm
    exact SR.ret trivial
  | cons v l ih =>
    intro l' i hl hv
    cases l' with
    | nil => simp at hl
    | cons v' l' =>
      unfold storeCells
      refine SR.store (h.add i) (hv 0 v v' rfl rfl) ?_
      exact ih l' (i + 1) (by simpa using hl) fun j u u' h1 h2 => hv (j + 1) u u' (by simpa using h1) (by simpa using h2)
theorem RR.list {c c' : Array Value} (h : RR ok ρ c c') : c.toList.length = c'.toList.length ∧ ∀ (j : Nat) v v', c.toList[j]? = some v → c'.toList[j]? = some v' → VR ok ρ v v' :=
  ⟨by simpa using h.size, fun j v v' h1 h2 => h.at_ j v v' (by rw [← Array.getElem?_toList]; exact h1) (by rw [← Array.getElem?_toList]; exact h2)⟩
theorem storeVar_sr {a a' : Addr} (h : AR ρ a a') (t : TypeId) {v v' : Value} (hv : VR ok ρ v v') : SR ok P (fun _ (_ _ : Unit) => True) ρ (storeVar t a v) (storeVar t a' v') := by
  unfold storeVar
  refine SR.bnd (size_sr t) fun ρ1 n m e1 hn => ?_
  subst hn
  have hc := (hv.ext e1).cells
  rw [← hc.size]
  split
  · exact SR.stuck
  · obtain ⟨h1, h2⟩ := hc.list
    exact storeCells_sr (h.ext e1) _ _ 0 h1 h2
theorem newRow_sr {c c' : Array Value} (h : RR ok ρ c c') (t : TypeId) : SR ok P (fun ρ a a' => AR ρ a a') ρ (newRow t c) (newRow t c') := by
  unfold newRow newObj
  refine SR.new h fun ρ' r _ hd => ?_
  exact SR.pure ⟨hd, rfl⟩
theorem newVar_sr {v v' : Value} (h : VR ok ρ v v') (t : TypeId) : SR ok P (fun ρ a a' => AR ρ a a') ρ (newVar t v) (newVar t v') := newRow_sr h.cells t

/-! ### the operations -/
theorem sureAddr_sr {v v' : Value} (h : VR ok ρ v v') : SR ok P (fun ρ a a' => AR ρ a a') ρ (Instr.sureAddr v) (Instr.sureAddr v') := by
  cases h with
  | ptr h => exact SR.ret h
  | _ => exact SR.stuck
theorem asIntOf_sr {v v' : Value} (h : VR ok ρ v v') : SR ok P (fun _ (a b : IntKind × Int) => a = b) ρ (asIntOf v) (asIntOf v') := by
  cases h with
  | int k n => exact SR.ret rfl
  | ptr h => exact SR.unsup
  | _ => exact SR.stuck
theorem asInt_sr {v v' : Value} (h : VR ok ρ v v') : SR ok P (fun _ (a b : Int) => a = b) ρ (asInt v) (asInt v') := SR.bnd (asIntOf_sr h) fun _ a b _ e => SR.ret (by rw [e])
theorem asBool_sr {v v' : Value} (h : VR ok ρ v v') : SR ok P (fun _ (a b : Bool) => a = b) ρ (asBool v) (asBool v') := by
  cases h with
  | bool b => exact SR.ret rfl
  | _ => exact SR.stuck
theorem alloc_sr {t : TypeId} (hz : ZeroOk ok P t) : SV ok P ρ (Instr.alloc t true (.tuple #[])) (Instr.alloc t true (.tuple #[])) :=
  SR.bnd (zero_sr hz) fun _ _ _ _ hv => SR.bnd (newVar_sr hv t) fun _ _ _ _ ha => SR.ret (.ptr ha)
theorem box_sr {t : TypeId} {v v' : Value} (hv : VR ok ρ v v') : SV ok P ρ (Instr.box t v) (Instr.box t v') := SR.bnd (newVar_sr hv t) fun _ _ _ _ ha => SR.ret (.ptr ha)
theorem loadAt_sr {v v' : Value} (h : VR ok ρ v v') (t : TypeId) : SV ok P ρ (Instr.loadAt t v) (Instr.loadAt t v') := SR.bnd (sureAddr_sr h) fun _ _ _ _ ha => loadVar_sr ha t
theorem storeAt_sr {v v' x x' : Value} (h : VR ok ρ v v') (hx : VR ok ρ x x') (t : TypeId) : SR ok P (fun _ (_ _ : Unit) => True) ρ (Instr.storeAt t v x) (Instr.storeAt t v' x') :=
  SR.bnd (sureAddr_sr h) fun _ _ _ e ha => storeVar_sr ha t (hx.ext e)
theorem makeInterface_sr {v v' : Value} (h : VR ok ρ v v') (t : TypeId) : SV ok P ρ (Instr.makeInterface t v) (Instr.makeInterface t v') := by
  refine SR.bnd (und_sr t) fun ρ' a b e hab => ?_
  obtain ⟨rfl, _⟩ := hab
  split
  · exact SR.stuck
  · exact SR.ret (.iface t (h.ext e))
theorem extract_sr {v v' : Value} (h : VR ok ρ v v') (n : Nat) : SV ok P ρ (Instr.extract v n) (Instr.extract v' n) := by
  cases h with
  | @tuple c c' hs ha =>
    unfold Instr.extract
    simp only
    have hr : RR ok ρ c c' := ⟨hs, ha⟩
    cases hc : c[n]? with
    | none => exact SR.stuck
    | some u =>
      obtain ⟨u', hu', hv⟩ := hr.get hc
      simp only [hu']
      exact SR.ret hv
  | _ => exact SR.stuck
end Co
end

section
namespace Co
open Go
variable {ok : FuncId → Prop} {P : Program} {ρ : Ren}

theorem SR.dead_r {α β : Type} {A : Ren → α → β → Prop} {s : Sem α} {s' : Sem β} (h : Dead P s) : SR ok P A ρ s s' := .dead h
/-- a struct type whose fields all have cells -/
def FieldsOk (P : Program) (t : TypeId) : Prop := ∀ fs, P.underlying t = some (.struct fs) → ∀ (j : Nat) f, fs[j]? = some f → ∀ i, P.info? f.type = some i → i.size ≠ 0
theorem fieldAt_sr {t : TypeId} (hf : FieldsOk P t) {v v' : Value} (h : VR ok ρ v v') (n : Nat) : SV ok P ρ (Instr.fieldAt t v n) (Instr.fieldAt t v' n) := by
  unfold Instr.fieldAt
  refine SR.bnd (und_sr t) fun ρ1 a b e1 hab => ?_
  obtain ⟨rfl, hu⟩ := hab
  cases a with
  | struct fs =>
    simp only
    cases hn : fs[n]? with
    | none => exact SR.stuck
    | some f =>
      simp only
      refine SR.bnd (sureAddr_sr (h.ext e1)) fun ρ2 x x' e2 hx => ?_
      refine SR.bnd (A := fun ρ a a' => AR ρ a a') ?_ fun ρ3 y y' _ hy => SR.ret (.ptr hy)
      unfold fieldPlace
      refine SR.bnd (A := fun _ (n m : Nat) => n = m ∧ n ≠ 0) (SR.bnd (info_sr f.type) fun ρ4 i i' _ hi => SR.ret ⟨by rw [hi.1], hf fs hu n f hn i hi.2⟩) fun ρ4 n m e4 hnm => ?_
      obtain ⟨rfl, hn0⟩ := hnm
      rw [if_neg hn0, if_neg hn0]
      exact SR.ret ((hx.add f.offset).ext e4)
  | _ => exact SR.stuck
/-- a slice's type -/
def SliceT (P : Program) (t e : TypeId) : Prop := P.underlying t = some (.slice e)
theorem und_of {t : TypeId} {d : TypeDesc} (h : P.underlying t = some d) : SR ok P (fun _ (a b : TypeDesc) => a = d ∧ b = d) ρ (underlying t) (underlying t) :=
  (und_sr t).mono fun _ a b _ hab => by
    obtain ⟨rfl, h2⟩ := hab
    rw [h] at h2
    cases h2
    exact ⟨rfl, rfl⟩
/-! reckoning a program step by step -/
def Red (P : Program) {α : Type} (s t : Sem α) : Prop := ∀ w es, s.runT P w es = t.runT P w es
theorem Red.refl {α : Type} (s : Sem α) : Red P s s := fun _ _ => rfl
theorem Red.trans {α : Type} {s t u : Sem α} (h : Red P s t) (k : Red P t u) : Red P s u := fun w es => (h w es).trans (k w es)
theorem Red.bind {α β : Type} {s t : Sem α} (h : Red P s t) (f : α → Sem β) : Red P (s >>= f) (t >>= f) := conv_bind h
theorem Red.dead {α : Type} {s t : Sem α} (h : Red P s t) (k : Dead P t) : Dead P s := fun w es => by rw [h w es]; exact k w es
theorem red_und {α : Type} {t : TypeId} {d : TypeDesc} (h : P.underlying t = some d) (f : TypeDesc → Sem α) : Red P (underlying t >>= f) (f d) := fun w es => by
  show ((Go.underlying t).bind f).runT P w es = _
  have : (Go.underlying t).runT P w es = (.ok d w, es) := by
    show (match P.underlying t with | some i => Pure.pure i | none => Go.stuck "no such type" : Sem TypeDesc).runT P w es = _
    rw [h]; rfl
  rw [Sem.runT_bind', this]
theorem red_info {α : Type} {t : TypeId} {d : TypeInfo} (h : P.info? t = some d) (f : TypeInfo → Sem α) : Red P (typeInfo t >>= f) (f d) := fun w es => by
  show ((Go.typeInfo t).bind f).runT P w es = _
  have : (Go.typeInfo t).runT P w es = (.ok d w, es) := by
    show (match P.info? t with | some i => Pure.pure i | none => Go.stuck "no such type" : Sem TypeInfo).runT P w es = _
    rw [h]; rfl
  rw [Sem.runT_bind', this]
theorem red_size {α : Type} {t : TypeId} {d : TypeInfo} (h : P.info? t = some d) (f : Nat → Sem α) : Red P (Go.sizeOf t >>= f) (f d.size) := fun w es => by
  show ((Go.sizeOf t).bind f).runT P w es = _
  have : (Go.sizeOf t).runT P w es = (.ok d.size w, es) := by
    have h2 := red_info h (fun i => (Pure.pure i.size : Sem Nat)) w es
    exact h2
  rw [Sem.runT_bind', this]
theorem red_prog {α : Type} (f : Program → Sem α) : Red P (program >>= f) (f P) := fun _ _ => rfl
theorem SR.red {α β : Type} {A : Ren → α → β → Prop} {s t : Sem α} {s' t' : Sem β} (h : Red P s t) (h' : Red P s' t') (k : SR ok P A ρ t t') : SR ok P A ρ s s' := .conv h h' k
theorem indexAt_sr {t e : TypeId} (ht : SliceT P t e) {inf : TypeInfo} (hi : P.info? e = some inf) {v v' x x' : Value} (h : VR ok ρ v v') (hx : VR ok ρ x x') : SV ok P ρ (Instr.indexAt t v x) (Instr.indexAt t v' x') := by
  cases hx with
  | int k i =>
    unfold Instr.indexAt
    cases h with
    | @sl a a' l c ha =>
      refine SR.red (red_und ht _) (red_und ht _) ?_
      refine SR.red (red_und ht _) (red_und ht _) ?_
      show SR ok P _ ρ (if 0 ≤ i ∧ i < l then _ else _) (if 0 ≤ i ∧ i < l then _ else _)
      by_cases hr : 0 ≤ i ∧ i < l
      · rw [if_pos hr, if_pos hr]
        exact SR.red (red_size hi _) (red_size hi _) (SR.ret (.ptr (ha.add _)))
      · rw [if_neg hr, if_neg hr]
        refine .dead ?_
        repeat' split
        all_goals first | exact dead_unsup _ | exact dead_bounds _ _ _ _
    | slNil l c =>
      refine SR.red (red_und ht _) (red_und ht _) ?_
      refine SR.red (red_und ht _) (red_und ht _) ?_
      exact SR.bounds
    | _ => exact .dead (Red.dead (red_und ht _) (Dead.bind (dead_stuck _)))
  | ptr _ => exact .dead (Dead.bind (dead_unsup _))
  | _ => exact .dead (Dead.bind (dead_stuck _))
theorem len_sr {t e : TypeId} (ht : SliceT P t e) {c c' : Array Value} (h : RR ok ρ c c') (a2 : TypeId) (ats : Array TypeId) (h0 : ats[0]? = some t) : SV ok P ρ (Builtin.len_ ats a2 c) (Builtin.len_ ats a2 c') := by
  unfold Builtin.len_
  rw [h0]
  cases hc : c[0]? with
  | none => exact SR.stuck
  | some v =>
    obtain ⟨v', hv', hv⟩ := h.get hc
    rw [hv']
    simp only
    refine SR.red (red_und ht _) (red_und ht _) ?_
    cases hv with
    | slNil l c => exact SR.ret (.int _ _)
    | sl l c ha => exact SR.ret (.int _ _)
    | _ => exact SR.stuck
theorem sliceBound_sr {x x' : Value} (hx : VR ok ρ x x') (y : Nat) (c : BoundsCode) : SR ok P (fun _ (a b : Nat) => a = b) ρ (Instr.sliceBound x y c) (Instr.sliceBound x' y c) := by
  unfold Instr.sliceBound
  cases hx with
  | int k i =>
    show SR ok P _ ρ (if 0 ≤ i ∧ i ≤ y then _ else _) (if 0 ≤ i ∧ i ≤ y then _ else _)
    by_cases hr : 0 ≤ i ∧ i ≤ y
    · rw [if_pos hr]; exact SR.ret rfl
    · rw [if_neg hr]; exact SR.bounds
  | ptr _ => exact .dead (Dead.bind (dead_unsup _))
  | _ => exact .dead (Dead.bind (dead_stuck _))
def OR (ok : FuncId → Prop) (ρ : Ren) : Option Value → Option Value → Prop
  | none, none => True
  | some v, some v' => VR ok ρ v v'
  | _, _ => False
theorem sliceBounds_sr {lo lo' hi hi' : Option Value} (hl : OR ok ρ lo lo') (hh : OR ok ρ hi hi') (b : Bool) (n m : Nat) :
    SR ok P (fun _ (a b : Nat × Nat × Nat) => a = b) ρ (Instr.sliceBounds b n m lo hi none) (Instr.sliceBounds b n m lo' hi' none) := by
  have last : ∀ {ρ1 : Ren} (_ : Ext ρ ρ1) (h : Nat), SR ok P (fun _ (a b : Nat × Nat × Nat) => a = b) ρ1
      (match lo with | some v => do let l ← Instr.sliceBound v h .sliceB; Pure.pure (l, h, m) | none => Pure.pure (0, h, m)) (match lo' with | some v => do let l ← Instr.sliceBound v h .sliceB; Pure.pure (l, h, m) | none => Pure.pure (0, h, m)) := by
    intro ρ1 e1 h
    cases lo with
    | none =>
      cases lo' with
      | none => exact SR.ret rfl
      | some v => exact hl.elim
    | some v =>
      cases lo' with
      | none => exact hl.elim
      | some v' =>
        refine SR.bnd (sliceBound_sr (VR.ext e1 hl) _ _) fun ρ2 x y e2 hxy => ?_
        subst hxy
        exact SR.ret rfl
  have key : ∀ (lo hi : Option Value), Instr.sliceBounds b n m lo hi none = (do
      let h ← (match hi with | some v => Instr.sliceBound v m (if b then .sliceAcap else .sliceAlen) | none => Pure.pure n)
      match lo with | some v => do let l ← Instr.sliceBound v h .sliceB; Pure.pure (l, h, m) | none => Pure.pure (0, h, m)) := by
    intro lo hi
    unfold Instr.sliceBounds
    cases hi <;> cases lo <;> simp [pure_bind]
  rw [key, key]
  refine SR.bnd (A := fun _ (a b : Nat) => a = b) ?_ fun ρ1 x y e1 hxy => ?_
  · cases hi with
    | none =>
      cases hi' with
      | none => exact SR.ret rfl
      | some v => exact hh.elim
    | some v =>
      cases hi' with
      | none => exact hh.elim
      | some v' => exact sliceBound_sr hh _ _
  · subst hxy
    have l := last e1 x
    cases lo <;> cases lo' <;> first | exact l | exact hl.elim
theorem sliceAt_sr {t e : TypeId} (ht : SliceT P t e) {inf : TypeInfo} (hin : P.info? e = some inf) {v v' : Value} (h : VR ok ρ v v') {lo lo' hi hi' : Option Value} (hl : OR ok ρ lo lo') (hh : OR ok ρ hi hi') :
    SV ok P ρ (Instr.sliceAt t v lo hi none) (Instr.sliceAt t v' lo' hi' none) := by
  unfold Instr.sliceAt
  refine SR.red (red_und ht _) (red_und ht _) ?_
  show SR ok P _ ρ (Instr.slice t v lo hi none) (Instr.slice t v' lo' hi' none)
  unfold Instr.slice
  refine SR.red (red_und ht _) (red_und ht _) ?_
  cases h with
  | slNil l c =>
    refine SR.bnd (sliceBounds_sr hl hh true l c) fun ρ1 p q e1 hpq => ?_
    subst hpq
    obtain ⟨a, b, m⟩ := p
    refine SR.red (red_size hin _) (red_size hin _) ?_
    show SR ok P _ ρ1 (Pure.pure (Value.slice (if m = a then none else none) (b - a) (m - a))) (Pure.pure (Value.slice (if m = a then none else none) (b - a) (m - a)))
    rw [ite_self]
    exact SR.ret (.slNil _ _)
  | @sl x x' l c ha =>
    refine SR.bnd (sliceBounds_sr hl hh true l c) fun ρ1 p q e1 hpq => ?_
    subst hpq
    obtain ⟨a, b, m⟩ := p
    refine SR.red (red_size hin _) (red_size hin _) ?_
    show SR ok P _ ρ1 (Pure.pure (Value.slice (if m = a then some x else some (x.add (a * inf.size))) (b - a) (m - a))) (Pure.pure (Value.slice (if m = a then some x' else some (x'.add (a * inf.size))) (b - a) (m - a)))
    by_cases c : m = a
    · rw [if_pos c, if_pos c]; exact SR.ret (.sl _ _ (ha.ext e1))
    · rw [if_neg c, if_neg c]; exact SR.ret (.sl _ _ ((ha.add _).ext e1))
  | _ => exact SR.stuck
theorem RR.fill {z z' : Array Value} (h : RR ok ρ z z') (n : Nat) : RR ok ρ ((Array.range n).map fun i => z[i % z.size]!) ((Array.range n).map fun i => z'[i % z'.size]!) := by
  refine ⟨by simp, fun i v v' h1 h2 => ?_⟩
  rw [Array.getElem?_map] at h1 h2
  cases hr : (Array.range n)[i]? with
  | none => simp [hr] at h1
  | some j =>
    simp only [hr, Option.map_some, Option.some.injEq] at h1 h2
    subst h1 h2
    rw [← h.size]
    cases hz : z[j % z.size]? with
    | none =>
      rw [getElem!_def, getElem!_def, hz, h.none hz]
      exact .bool _
    | some u =>
      obtain ⟨u', hu', hv⟩ := h.get hz
      rw [getElem!_def, getElem!_def, hz, hu']
      exact hv
theorem makeTail {z z' : Array Value} (h : RR ok ρ z z') (e : TypeId) (n l c : Nat) :
    SV ok P ρ (do let zero ← Pure.pure z; let a ← newRow e ((Array.range n).map (zero[· % zero.size]!)); Pure.pure (Value.slice (some a) l c)) (do let zero ← Pure.pure z'; let a ← newRow e ((Array.range n).map (zero[· % zero.size]!)); Pure.pure (Value.slice (some a) l c)) :=
  SR.bnd (s := newRow e ((Array.range n).map fun i => z[i % z.size]!)) (s' := newRow e ((Array.range n).map fun i => z'[i % z'.size]!)) (newRow_sr (h.fill n) e) fun _ _ _ _ ha => SR.ret (VR.sl _ _ ha)
theorem makeSlice_sr {t e : TypeId} (ht : SliceT P t e) {inf : TypeInfo} (hin : P.info? e = some inf) (hz : ZeroOk ok P e) {v v' x x' : Value} (h : VR ok ρ v v') (hx : VR ok ρ x x') : SV ok P ρ (Instr.makeSlice t v x) (Instr.makeSlice t v' x') := by
  unfold Instr.makeSlice
  refine SR.red (red_und ht _) (red_und ht _) ?_
  refine SR.bnd (asInt_sr h) fun ρ1 n n' e1 hn => ?_
  subst hn
  refine SR.bnd (asInt_sr (hx.ext e1)) fun ρ2 m m' e2 hm => ?_
  subst hm
  refine SR.red (red_info hin _) (red_info hin _) ?_
  simp only
  split
  · refine .dead ?_
    repeat' split
    all_goals first
      | exact dead_rt _
      | exact Dead.bind (dead_rt _)
      | (refine Dead.then (by (first | exact quiet_prog | exact quiet_und _ | exact quiet_info _ | exact quiet_size _ | exact quiet_choose _ | exact quiet_newVar _ _ | exact quiet_elemOf _ | exact quiet_asInt _ | exact quiet_room _ | exact quiet_mark _ | exact quiet_shape _ | exact quiet_frozen _ | exact quiet_pure _ | exact quiet_bind (quiet_choose _) fun _ => quiet_pure _)) fun _ => ?_; exact dead_rt _)
      | (refine Dead.then (by (first | exact quiet_prog | exact quiet_und _ | exact quiet_info _ | exact quiet_size _ | exact quiet_choose _ | exact quiet_newVar _ _ | exact quiet_elemOf _ | exact quiet_asInt _ | exact quiet_room _ | exact quiet_mark _ | exact quiet_shape _ | exact quiet_frozen _ | exact quiet_pure _ | exact quiet_bind (quiet_choose _) fun _ => quiet_pure _)) fun _ => ?_; exact Dead.bind (dead_rt _))
      | (refine Dead.bind ?_; refine Dead.then (by (first | exact quiet_prog | exact quiet_und _ | exact quiet_info _ | exact quiet_size _ | exact quiet_choose _ | exact quiet_newVar _ _ | exact quiet_elemOf _ | exact quiet_asInt _ | exact quiet_room _ | exact quiet_mark _ | exact quiet_shape _ | exact quiet_frozen _ | exact quiet_pure _ | exact quiet_bind (quiet_choose _) fun _ => quiet_pure _)) fun _ => ?_; exact dead_rt _)
  · refine SR.bnd (A := fun _ (_ _ : Unit) => True) ?_ fun ρ3 _ _ e3 _ => ?_
    · unfold askRoom
      split
      · exact SR.noRoom (SR.pure trivial)
      · exact SR.ret trivial
    refine SR.red (red_size hin _) (red_size hin _) ?_
    split
    · exact makeTail (RR.nil) _ _ _ _
    · exact SR.bnd (zero_sr hz) fun ρ4 z z' _ hzz => makeTail hzz.cells _ _ _ _
end Co
end

section
namespace Co
open Go
variable {ok : FuncId → Prop} {P : Program} {ρ : Ren}

theorem lenOf_sr {v v' : Value} (h : VR ok ρ v v') : SR ok P (fun _ (a b : Nat) => a = b) ρ (Builtin.lenOf v) (Builtin.lenOf v') := by
  cases h with
  | slNil l c => exact SR.ret rfl
  | sl l c _ => exact SR.ret rfl
  | string s => exact SR.ret rfl
  | _ => exact SR.stuck
theorem firstCells_sr {v v' : Value} (h : VR ok ρ v v') (sz n : Nat) : SR ok P (fun ρ c c' => RR ok ρ c c') ρ (Builtin.firstCells sz n v) (Builtin.firstCells sz n v') := by
  cases h with
  | slNil l c => exact SR.ret RR.nil
  | sl l c ha => exact loadCells_sr (n * sz) ha 0 RR.nil
  | string s =>
    refine SR.ret ⟨rfl, fun i v v' h1 h2 => ?_⟩
    rw [Array.getElem?_map] at h1 h2
    cases hr : (s.extract 0 n).data[i]? with
    | none => rw [hr] at h1; cases h1
    | some j =>
      simp only [hr, Option.map_some, Option.some.injEq] at h1 h2
      subst h1 h2
      exact .int _ _
  | _ => exact SR.stuck
theorem zeroCells_rr {z z' : Array Value} (h : RR ok ρ z z') (n : Nat) : RR ok ρ (Builtin.zeroCells z n) (Builtin.zeroCells z' n) := by
  unfold Builtin.zeroCells
  rw [← h.size]
  have := h.fill (n * z.size)
  rw [← h.size] at this
  exact this
def OA (ρ : Ren) : Option Addr → Option Addr → Prop
  | none, none => True
  | some a, some a' => AR ρ a a'
  | _, _ => False
theorem quiet_holds (a : Addr) (n : Nat) : Quiet P (Builtin.holdsCells a n) := by
  unfold Builtin.holdsCells
  refine quiet_bind (quiet_shape _) fun o => ?_
  split <;> exact quiet_pure _
theorem quiet_mayShare (a b c : Nat) (o : Option Addr) (v : Value) : Quiet P (Builtin.mayShare a b c o v) := by
  unfold Builtin.mayShare
  have key : ∀ t : Bool, Quiet P (do
      if !t then return true
      match v with
      | .slice (some x) _ _ => do pure (!(← Builtin.holdsCells x (c * a)) || o.any (·.block == x.block))
      | _ => pure false : Sem Bool) := by
    intro t
    cases t
    · exact quiet_pure _
    · show Quiet P (match v with
        | .slice (some x) _ _ => do pure (!(← Builtin.holdsCells x (c * a)) || o.any (·.block == x.block))
        | _ => pure false : Sem Bool)
      split
      · exact quiet_bind (quiet_holds _ _) fun _ => quiet_pure _
      · exact quiet_pure _
  cases o with
  | none => exact key true
  | some x =>
    show Quiet P (Builtin.holdsCells x (b * a) >>= fun t => frozen (x.add (b / 2 * a)) >>= fun z => _)
    exact quiet_bind (quiet_holds _ _) fun t => quiet_bind (quiet_frozen _) fun z => key _
theorem append_sr {t e : TypeId} (ht : SliceT P t e) {inf : TypeInfo} (hin : P.info? e = some inf) (hz : ZeroOk ok P e) {c c' : Array Value} (h : RR ok ρ c c') (ty : TypeId) : SV ok P ρ (Builtin.append_ #[t, t] ty c) (Builtin.append_ #[t, t] ty c') := by
  unfold Builtin.append_
  cases h0 : c[0]? with
  | none => exact SR.stuck
  | some s =>
  obtain ⟨s', hs', hs⟩ := h.get h0
  rw [hs']
  cases h1 : c[1]? with
  | none => exact SR.stuck
  | some x =>
  obtain ⟨x', hx', hx⟩ := h.get h1
  rw [hx']
  simp only [List.getElem?_toArray, List.getElem?_cons_zero, List.getElem?_cons_succ]
  refine SR.red (red_und ht _) (red_und ht _) ?_
  simp only
  have hsl : (∃ b b' l k, s = .slice b l k ∧ s' = .slice b' l k ∧ OA ρ b b') ∨ ∀ b l k, s ≠ .slice b l k := by
    cases hs with
    | slNil l k => exact .inl ⟨none, none, l, k, rfl, rfl, trivial⟩
    | sl l k ha => exact .inl ⟨_, _, l, k, rfl, rfl, ha⟩
    | _ => exact .inr fun _ _ _ => by simp
  rcases hsl with ⟨base, base', sLen, sCap, rfl, rfl, hb⟩ | hno
  rotate_left
  · cases s with
    | slice b l k => exact absurd rfl (hno b l k)
    | _ => exact SR.stuck
  simp only
  refine SR.red (red_size hin _) (red_size hin _) ?_
  refine SR.red (red_und ht _) (red_und ht _) ?_
  simp only [pure_bind, Bool.false_eq_true, if_false, Bool.not_false, if_true, false_or]
  refine SR.bnd (lenOf_sr hx) fun ρ1 n n' e1 hn => ?_
  subst hn
  by_cases hroom : sLen + n ≤ sCap
  · rw [if_pos hroom, if_pos hroom]
    refine SR.bnd (firstCells_sr (hx.ext e1) _ _) fun ρ2 new new' e2 hnew => ?_
    cases base with
    | none =>
      cases base' with
      | none => exact SR.ret (.slNil _ _)
      | some a' => exact hb.elim
    | some a =>
      cases base' with
      | none => exact hb.elim
      | some a' =>
        have hb2 : AR ρ2 a a' := AR.ext e2 (AR.ext e1 hb)
        obtain ⟨l1, l2⟩ := hnew.list
        exact SR.bnd (storeCells_sr (hb2.add _) _ _ 0 l1 l2) fun ρ3 _ _ e3 _ => SR.ret (.sl _ _ (hb2.ext e3))
  · rw [if_neg hroom, if_neg hroom]
    refine SR.red (red_info hin _) (red_info hin _) ?_
    split
    · exact .dead (Dead.bind (dead_rt _))
    · refine SR.red (red_info hin _) (red_info hin _) ?_
      split
      · refine .dead (Dead.bind (Dead.then (quiet_mayShare _ _ _ _ _) fun _ => ?_))
        split
        · exact (by refine Dead.then (by (first | exact quiet_prog | exact quiet_und _ | exact quiet_info _ | exact quiet_size _ | exact quiet_choose _ | exact quiet_newVar _ _ | exact quiet_elemOf _ | exact quiet_asInt _ | exact quiet_room _ | exact quiet_mark _ | exact quiet_shape _ | exact quiet_frozen _ | exact quiet_pure _ | exact quiet_bind (quiet_choose _) fun _ => quiet_pure _)) fun _ => ?_; exact dead_unsup _)
        · exact dead_unsup _
      · refine SR.bnd (A := fun _ (a b : Nat) => a = b) (SR.choose fun n => SR.pure rfl) fun ρ2 cp cp' e2 hcp => ?_
        subst hcp
        refine SR.red (red_info hin _) (red_info hin _) ?_
        refine SR.bnd (A := fun _ (_ _ : Unit) => True) ?_ fun ρ3 _ _ e3 _ => ?_
        · unfold askRoom
          split
          · exact SR.noRoom (SR.pure trivial)
          · exact SR.ret trivial
        have hs3 := ((hs.ext e1).ext e2).ext e3
        have hx3 := ((hx.ext e1).ext e2).ext e3
        refine SR.bnd (firstCells_sr hs3 _ _) fun ρ4 old old' e4 hold => ?_
        refine SR.bnd (firstCells_sr (hx3.ext e4) _ _) fun ρ5 new new' e5 hnew => ?_
        refine SR.bnd (zero_sr hz) fun ρ6 z z' e6 hzz => ?_
        exact SR.bnd (newRow_sr ((((hold.ext e5).ext e6).append (hnew.ext e6)).append (zeroCells_rr hzz.cells _)) e) fun ρ7 a a' _ ha => SR.ret (.sl _ _ ha)
theorem shift_sr {k yk : IntKind} (op : BinOp) (x y : Int) : SV ok P ρ (Op.shift op k x yk y) (Op.shift op k x yk y) := by
  unfold Op.shift
  split
  · exact SR.rt
  · cases op <;> first | exact SR.ret (.int _ _) | exact SR.stuck
theorem intArith_sr {k : IntKind} (op : BinOp) (x y : Int) : SV ok P ρ (Op.intArith op k x y) (Op.intArith op k x y) := by
  unfold Op.intArith
  cases op <;> first | exact SR.ret (.int _ _) | exact SR.stuck
theorem intCmp_sr (op : BinOp) (x y : Int) : SV ok P ρ (Op.intCmp op x y) (Op.intCmp op x y) := by
  unfold Op.intCmp
  cases op <;> first | exact SR.ret (.bool _) | exact SR.stuck
theorem stringOp_sr (op : BinOp) (x y : ByteArray) : SV ok P ρ (Op.stringOp op x y) (Op.stringOp op x y) := by
  unfold Op.stringOp
  cases op
  all_goals first
    | exact SR.ret (.bool _)
    | exact SR.stuck
    | (simp only; split; exact SR.unsup; exact SR.ret (.string _))
theorem numberAt_sr {ρ : Ren} {r : Nat} (h : ρ.dom r) : SR ok P (fun ρ (x y : Option (Addr × Bool)) => (x = none ∧ y = none) ∨ ∃ a a' l, x = some (a, l) ∧ y = some (a', l) ∧ AR ρ a a') ρ (numberAt r) (numberAt (ρ.to r)) := by
  have := SR.numberAt (ok := ok) (P := P) (ρ := ρ) (k := Sem.pure) (k' := Sem.pure) (A := fun ρ (x y : Option (Addr × Bool)) => (x = none ∧ y = none) ∨ ∃ a a' l, x = some (a, l) ∧ y = some (a', l) ∧ AR ρ a a') h (SR.pure (.inl ⟨rfl, rfl⟩)) (fun a a' l ha => SR.pure (.inr ⟨a, a', l, rfl, rfl, ha⟩))
  rwa [Sem.bind_pure', Sem.bind_pure'] at this
theorem behind_sr {ρ : Ren} {a a' : Addr} (h : AR ρ a a') : SR ok P (fun ρ (x y : Addr × Bool) => AR ρ x.1 y.1 ∧ x.2 = y.2) ρ (behindNumber a) (behindNumber a') := by
  obtain ⟨hd, rfl⟩ := h
  refine SR.bnd (numberAt_sr hd) fun ρ1 x y e1 hxy => ?_
  rcases hxy with ⟨rfl, rfl⟩ | ⟨b, b', l, rfl, rfl, hb⟩
  · exact SR.ret ⟨AR.ext e1 ⟨hd, rfl⟩, rfl⟩
  · exact SR.ret ⟨hb, rfl⟩
theorem dead_twoPlaces {α : Type} {ρ : Ren} (hg : ρ.glob = P.globals.size) {a a' b b' : Addr} (h : AR ρ a a') (_k : AR ρ b b') (f : Nat × Nat → Sem α) : Dead P (Op.twoPlaces a b >>= f) := by
  refine Dead.bind ?_
  unfold Op.twoPlaces
  refine Red.dead (red_prog _) ?_
  have := ρ.lo _ h.1
  rw [hg] at this
  rw [if_pos (by simp; right; omega)]
  exact Dead.bind (dead_unsup _)
end Co
end
