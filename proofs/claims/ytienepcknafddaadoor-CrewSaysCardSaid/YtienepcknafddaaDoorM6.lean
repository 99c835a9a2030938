/- PLAIN LAW of the model: two worlds that part in the numbers of their blocks: what a program of the model's does in the one it does in the other (no program text in sight). For a goroutine that is not alone: the small world is its own, the great one holds the others' blocks, too. · PLAIN LAW of the model: what a program of the model's has drawn is not undone (no program text in sight). -/
import Derived.Calls
import Derived.StepT
import Derived.Conc.Events
import Derived.Laws.Sem
set_option linter.unusedVariables false
set_option linter.unusedSimpArgs false
section
namespace Co
open Go

/-- block b of the small world is block 'to b' of the great one; (may) says which cells are to be written; none in play lies below glob -/
structure Ren where
  dom : Nat → Prop
  to : Nat → Nat
  may : Nat → Nat → Prop
  /-- the small world holds the block shut: it neither reads nor writes it -/
  shut : Nat → Prop
  /-- names for values that the small world does not look into -/
  nm : Nat → Option Value
  glob : Nat
  inj : ∀ a b, dom a → dom b → to a = to b → a = b
  lo : ∀ b, dom b → glob ≤ b
structure Ext (ρ ρ' : Ren) : Prop where
  at_ : ∀ b, ρ.dom b → ρ'.dom b ∧ ρ'.to b = ρ.to b
  glob : ρ'.glob = ρ.glob
  shut : ∀ b, ρ.dom b → (ρ'.shut b ↔ ρ.shut b)
  nm : ∀ n v, ρ.nm n = some v → ρ'.nm n = some v
theorem Ext.refl (ρ : Ren) : Ext ρ ρ := ⟨fun _ h => ⟨h, rfl⟩, rfl, fun _ _ => Iff.rfl, fun _ _ h => h⟩
theorem Ext.trans {a b c : Ren} (h : Ext a b) (k : Ext b c) : Ext a c := ⟨fun x hx => ⟨(k.at_ x (h.at_ x hx).1).1, ((k.at_ x (h.at_ x hx).1).2).trans (h.at_ x hx).2⟩, k.glob.trans h.glob, fun x hx => (k.shut x (h.at_ x hx).1).trans (h.shut x hx), fun n v e => k.nm n v (h.nm n v e)⟩
def AR (ρ : Ren) (a a' : Addr) : Prop := ρ.dom a.block ∧ a' = { a with block := ρ.to a.block }
theorem AR.ext {ρ ρ' : Ren} (e : Ext ρ ρ') {a a' : Addr} (h : AR ρ a a') : AR ρ' a a' := ⟨(e.at_ _ h.1).1, by rw [(e.at_ _ h.1).2]; exact h.2⟩
theorem AR.add {ρ : Ren} {a a' : Addr} (h : AR ρ a a') (n : Nat) : AR ρ (a.add n) (a'.add n) := by
  obtain ⟨h, rfl⟩ := h
  unfold Addr.add
  split
  · exact ⟨h, rfl⟩
  · exact ⟨h, rfl⟩
/-- values alike; of functions those alone that are let by (ok), without captured values -/
inductive VR (ok : FuncId → Prop) (ρ : Ren) : Value → Value → Prop
  | bool (b : Bool) : VR ok ρ (.bool b) (.bool b)
  | int (k : IntKind) (n : Int) : VR ok ρ (.int k n) (.int k n)
  | string (s : ByteArray) : VR ok ρ (.string s) (.string s)
  | ptrNil : VR ok ρ (.pointer none) (.pointer none)
  | ptr {a a' : Addr} : AR ρ a a' → VR ok ρ (.pointer (some a)) (.pointer (some a'))
  | slNil (l c : Nat) : VR ok ρ (.slice none l c) (.slice none l c)
  | sl {a a' : Addr} (l c : Nat) : AR ρ a a' → VR ok ρ (.slice (some a) l c) (.slice (some a') l c)
  | func {f : FuncId} : ok f → VR ok ρ (.func (.func f) #[] #[]) (.func (.func f) #[] #[])
  | nilFunc : VR ok ρ .nilFunc .nilFunc
  | nilIface : VR ok ρ .nilIface .nilIface
  | iface (t : TypeId) {v v' : Value} : VR ok ρ v v' → VR ok ρ (.iface t v) (.iface t v')
  | agg {c c' : Array Value} : c.size = c'.size → (∀ (i : Nat) v v', c[i]? = some v → c'[i]? = some v' → VR ok ρ v v') → VR ok ρ (.agg c) (.agg c')
  | tuple {c c' : Array Value} : c.size = c'.size → (∀ (i : Nat) v v', c[i]? = some v → c'[i]? = some v' → VR ok ρ v v') → VR ok ρ (.tuple c) (.tuple c')
  | any {m : Option Nat} {v' : Value} : (∀ c, v' ≠ .agg c) → (∀ c, v' ≠ .tuple c) → (∀ c, v' ≠ .bool c) → (∀ n, m = some n → ρ.nm n = some v') → VR ok ρ (.chan m) v'
variable {ok : FuncId → Prop}
theorem VR.ext {ρ ρ' : Ren} (e : Ext ρ ρ') {v v' : Value} (h : VR ok ρ v v') : VR ok ρ' v v' := by
  induction h with
  | bool b => exact .bool b
  | int k n => exact .int k n
  | string s => exact .string s
  | ptrNil => exact .ptrNil
  | ptr h => exact .ptr (h.ext e)
  | slNil l c => exact .slNil l c
  | sl l c h => exact .sl l c (h.ext e)
  | func h => exact .func h
  | nilFunc => exact .nilFunc
  | nilIface => exact .nilIface
  | iface t _ ih => exact .iface t ih
  | agg hs _ ih => exact .agg hs ih
  | tuple hs _ ih => exact .tuple hs ih
  | any h1 h2 h3 h4 => exact .any h1 h2 h3 fun n en => e.nm n _ (h4 n en)
/-- rows of values alike -/
structure RR (ok : FuncId → Prop) (ρ : Ren) (c c' : Array Value) : Prop where
  size : c.size = c'.size
  at_ : ∀ (i : Nat) v v', c[i]? = some v → c'[i]? = some v' → VR ok ρ v v'
theorem RR.ext {ρ ρ' : Ren} (e : Ext ρ ρ') {c c' : Array Value} (h : RR ok ρ c c') : RR ok ρ' c c' := ⟨h.size, fun i v v' h1 h2 => (h.at_ i v v' h1 h2).ext e⟩
theorem RR.get {ρ : Ren} {c c' : Array Value} (h : RR ok ρ c c') {i : Nat} {v : Value} (hv : c[i]? = some v) : ∃ v', c'[i]? = some v' ∧ VR ok ρ v v' := by
  obtain ⟨hi, rfl⟩ := Array.getElem?_eq_some_iff.1 hv
  have hi' : i < c'.size := by rw [← h.size]; exact hi
  exact ⟨c'[i], Array.getElem?_eq_getElem hi', h.at_ i _ _ hv (Array.getElem?_eq_getElem hi')⟩
theorem RR.none {ρ : Ren} {c c' : Array Value} (h : RR ok ρ c c') {i : Nat} (hv : c[i]? = none) : c'[i]? = none := by
  rw [Array.getElem?_eq_none_iff] at hv ⊢
  rw [← h.size]; exact hv
theorem RR.nil {ρ : Ren} : RR ok ρ #[] #[] := ⟨rfl, fun i v v' h => by simp at h⟩
theorem RR.push {ρ : Ren} {c c' : Array Value} {v v' : Value} (h : RR ok ρ c c') (hv : VR ok ρ v v') : RR ok ρ (c.push v) (c'.push v') := by
  refine ⟨by simp [h.size], fun i u u' h1 h2 => ?_⟩
  rw [Array.getElem?_push] at h1 h2
  by_cases e : i = c.size
  · rw [if_pos e] at h1
    rw [if_pos (by rw [← h.size]; exact e)] at h2
    simp only [Option.some.injEq] at h1 h2
    subst h1 h2; exact hv
  · rw [if_neg e] at h1
    rw [if_neg (by rw [← h.size]; exact e)] at h2
    exact h.at_ i u u' h1 h2
theorem RR.set {ρ : Ren} {c c' : Array Value} {v v' : Value} (h : RR ok ρ c c') (j : Nat) (hv : VR ok ρ v v') : RR ok ρ (c.setIfInBounds j v) (c'.setIfInBounds j v') := by
  refine ⟨by simp [h.size], fun i u u' h1 h2 => ?_⟩
  rw [Array.getElem?_setIfInBounds] at h1 h2
  by_cases e : j = i
  · rw [if_pos e] at h1 h2
    split at h1
    · split at h2
      · simp only [Option.some.injEq] at h1 h2
        subst h1 h2; exact hv
      · cases h2
    · cases h1
  · rw [if_neg e] at h1 h2
    exact h.at_ i u u' h1 h2
theorem RR.append {ρ : Ren} {c c' d d' : Array Value} (h : RR ok ρ c c') (k : RR ok ρ d d') : RR ok ρ (c ++ d) (c' ++ d') := by
  refine ⟨by simp [h.size, k.size], fun i u u' h1 h2 => ?_⟩
  rw [Array.getElem?_append] at h1 h2
  rw [← h.size] at h2
  by_cases e : i < c.size
  · rw [if_pos e] at h1 h2
    exact h.at_ i u u' h1 h2
  · rw [if_neg e] at h1 h2
    exact k.at_ _ u u' h1 h2
theorem RR.agg {ρ : Ren} {c c' : Array Value} (h : RR ok ρ c c') : VR ok ρ (.agg c) (.agg c') := .agg h.size h.at_
theorem RR.tuple {ρ : Ren} {c c' : Array Value} (h : RR ok ρ c c') : VR ok ρ (.tuple c) (.tuple c') := .tuple h.size h.at_
theorem VR.ofAgg {ρ : Ren} {c c' : Array Value} (h : VR ok ρ (.agg c) (.agg c')) : RR ok ρ c c' := by
  cases h with | agg h1 h2 => exact ⟨h1, h2⟩
theorem RR.one {ρ : Ren} {v v' : Value} (h : VR ok ρ v v') : RR ok ρ #[v] #[v'] := (RR.nil).push h
theorem VR.cells {ρ : Ren} {v v' : Value} (h : VR ok ρ v v') : RR ok ρ v.cells v'.cells := by
  cases h with
  | agg h1 h2 => exact ⟨h1, h2⟩
  | bool b => exact RR.one (.bool b)
  | int k n => exact RR.one (.int k n)
  | string s => exact RR.one (.string s)
  | ptrNil => exact RR.one .ptrNil
  | ptr h => exact RR.one (.ptr h)
  | slNil l c => exact RR.one (.slNil l c)
  | sl l c h => exact RR.one (.sl l c h)
  | func h => exact RR.one (.func h)
  | nilFunc => exact RR.one .nilFunc
  | nilIface => exact RR.one .nilIface
  | iface t h => exact RR.one (.iface t h)
  | tuple h1 h2 => exact RR.one (.tuple h1 h2)
  | @any m v' h1 h2 h3 h4 =>
    have : v'.cells = #[v'] := by cases v' <;> first | rfl | exact absurd rfl (h1 _)
    rw [this]
    exact RR.one (.any h1 h2 h3 h4)

/-- rows of cells alike: the great one may be longer -/
structure PR (ok : FuncId → Prop) (ρ : Ren) (c c' : Array Value) : Prop where
  size : c.size ≤ c'.size
  at_ : ∀ (i : Nat) v v', c[i]? = some v → c'[i]? = some v' → VR ok ρ v v'
theorem RR.pr {ρ : Ren} {c c' : Array Value} (h : RR ok ρ c c') : PR ok ρ c c' := ⟨Nat.le_of_eq h.size, h.at_⟩
theorem PR.ext {ρ ρ' : Ren} (e : Ext ρ ρ') {c c' : Array Value} (h : PR ok ρ c c') : PR ok ρ' c c' := ⟨h.size, fun i v v' h1 h2 => (h.at_ i v v' h1 h2).ext e⟩
theorem PR.get {ρ : Ren} {c c' : Array Value} (h : PR ok ρ c c') {i : Nat} {v : Value} (hv : c[i]? = some v) : ∃ v', c'[i]? = some v' ∧ VR ok ρ v v' := by
  obtain ⟨hi, rfl⟩ := Array.getElem?_eq_some_iff.1 hv
  have hi' : i < c'.size := Nat.lt_of_lt_of_le hi h.size
  exact ⟨c'[i], Array.getElem?_eq_getElem hi', h.at_ i _ _ hv (Array.getElem?_eq_getElem hi')⟩
theorem PR.set {ρ : Ren} {c c' : Array Value} {v v' : Value} (h : PR ok ρ c c') (j : Nat) (hv : VR ok ρ v v') : PR ok ρ (c.setIfInBounds j v) (c'.setIfInBounds j v') := by
  refine ⟨by simpa using h.size, fun i u u' h1 h2 => ?_⟩
  rw [Array.getElem?_setIfInBounds] at h1 h2
  by_cases e : j = i
  · rw [if_pos e] at h1 h2
    split at h1
    · split at h2
      · simp only [Option.some.injEq] at h1 h2
        subst h1 h2; exact hv
      · cases h2
    · cases h1
  · rw [if_neg e] at h1 h2
    exact h.at_ i u u' h1 h2
/-- what is told of a block's shape in the two -/
def ShR (s s' : Option (TypeId × Nat)) : Prop := (s = none ∧ s' = none) ∨ (∃ p, s = none ∧ s' = some p) ∨ ∃ e n n', s = some (e, n) ∧ s' = some (e, n') ∧ n ≤ n'

/-- the halts that leave the machine as it is, or end it, or unwind -/
def Tame : Halt → Prop
  | .fatal _ | .throw _ | .unsupported (.initOrder _) => False
  | _ => True
/-- a program that never comes to an end without a halt -/
def Dead (P : Program) {α : Type} (s : Sem α) : Prop := ∀ w es, ∃ h u f, s.runT P w es = (.halt h u, f) ∧ Tame h
theorem Dead.no {P : Program} {α : Type} {s : Sem α} (h : Dead P s) : ∀ w es a u f, s.runT P w es ≠ (.ok a u, f) := fun w es a u f c => by
  obtain ⟨x, u', f', h1, _⟩ := h w es
  rw [h1] at c; cases c
/-- a program that halts, if it does, tamely -/
def Quiet (P : Program) {α : Type} (s : Sem α) : Prop := ∀ w es h u f, s.runT P w es = (.halt h u, f) → Tame h
theorem Dead.quiet {P : Program} {α : Type} {s : Sem α} (h : Dead P s) : Quiet P s := fun w es x u f c => by
  obtain ⟨y, u', f', h1, h2⟩ := h w es
  rw [h1] at c; cases c; exact h2
theorem Dead.halt {P : Program} {α : Type} (h : Halt) (ht : Tame h := by exact True.intro) : Dead P (.halt h : Sem α) := fun w es => ⟨h, w, es, rfl, ht⟩
theorem Dead.bind {P : Program} {α β : Type} {s : Sem α} {f : α → Sem β} (h : Dead P s) : Dead P (s.bind f) := fun w es => by
  obtain ⟨x, u, g, h1, h2⟩ := h w es
  exact ⟨x, u, g, by rw [Sem.runT_bind', h1], h2⟩
theorem Dead.then {P : Program} {α β : Type} {s : Sem α} {f : α → Sem β} (hq : Quiet P s) (h : ∀ a, Dead P (f a)) : Dead P (s.bind f) := fun w es => by
  rw [Sem.runT_bind']
  cases hr : s.runT P w es with
  | mk r es' =>
    cases r with
    | ok a' w' => exact h a' w' es'
    | halt x w' => exact ⟨x, w', es', rfl, hq w es x w' es' hr⟩
theorem Quiet.pure {P : Program} {α : Type} (a : α) : Quiet P (Sem.pure a) := fun w es h u f c => by simp [Sem.runT] at c
theorem Quiet.program {P : Program} {α : Type} {k : Program → Sem α} (h : ∀ p, Quiet P (k p)) : Quiet P (.program k) := fun w es x u f c => h P w es x u f c
theorem Quiet.new {P : Program} {α : Type} {o : Obj} {k : Nat → Sem α} (h : ∀ p, Quiet P (k p)) : Quiet P (.new o k) := fun w es x u f c => h _ _ es x u f c
theorem Quiet.mark {P : Program} {α : Type} {m : Mark} {k : Sem α} (h : Quiet P k) : Quiet P (.mark m k) := fun w es x u f c => h _ _ x u f c
theorem Quiet.bind {P : Program} {α β : Type} {s : Sem α} {f : α → Sem β} (h : Quiet P s) (hf : ∀ a, Quiet P (f a)) : Quiet P (s.bind f) := fun w es x u g c => by
  rw [Sem.runT_bind'] at c
  cases hr : s.runT P w es with
  | mk r es' =>
    rw [hr] at c
    cases r with
    | ok a' w' => exact hf a' w' es' x u g c
    | halt y w' => simp only [Prod.mk.injEq, Result.halt.injEq] at c; obtain ⟨⟨rfl, rfl⟩, rfl⟩ := c; exact h w es _ _ _ hr
/-- programs of the model's that do alike: whatever the small one does without a halt the great one does, too -/
inductive SR (ok : FuncId → Prop) (P : Program) {α β : Type} (A : Ren → α → β → Prop) : Ren → Sem α → Sem β → Prop
  | pure {ρ : Ren} {a : α} {b : β} : A ρ a b → SR ok P A ρ (.pure a) (.pure b)
  | load {ρ : Ren} {m : Mode} {a a' : Addr} {k : Value → Sem α} {k' : Value → Sem β} : AR ρ a a' → (∀ v v', VR ok ρ v v' → SR ok P A ρ (k v) (k' v')) → SR ok P A ρ (.load m a k) (.load m a' k')
  | store {ρ : Ren} {m : Mode} {a a' : Addr} {v v' : Value} {k : Sem α} {k' : Sem β} : AR ρ a a' → VR ok ρ v v' → SR ok P A ρ k k' → SR ok P A ρ (.store m a v k) (.store m a' v' k')
  | new {ρ : Ren} {c c' : Array Value} {t : TypeId} {k : Nat → Sem α} {k' : Nat → Sem β} : RR ok ρ c c' →
      (∀ ρ' r, Ext ρ ρ' → ρ'.dom r → SR ok P A ρ' (k r) (k' (ρ'.to r))) → SR ok P A ρ (.new (.cells c t) k) (.new (.cells c' t) k')
  | choose {ρ : Ren} {q : Question} {k : Nat → Sem α} {k' : Nat → Sem β} : (∀ n, SR ok P A ρ (k n) (k' n)) → SR ok P A ρ (.choose q k) (.choose q k')
  | program {ρ : Ren} {k : Program → Sem α} {k' : Program → Sem β} : SR ok P A ρ (k P) (k' P) → SR ok P A ρ (.program k) (.program k')
  | number {ρ : Ren} {a a' : Addr} {l : Bool} {k : Nat → Sem α} {k' : Nat → Sem β} : AR ρ a a' →
      (∀ ρ' r, Ext ρ ρ' → ρ'.dom r → SR ok P A ρ' (k r) (k' (ρ'.to r))) → SR ok P A ρ (.new (.number a l) k) (.new (.number a' l) k')
  | shape {ρ : Ren} {r : Nat} {k : Option (TypeId × Nat) → Sem α} {k' : Option (TypeId × Nat) → Sem β} : ρ.dom r → (∀ s s', ShR s s' → SR ok P A ρ (k s) (k' s')) → SR ok P A ρ (.shape r k) (.shape (ρ.to r) k')
  | numberAt {ρ : Ren} {r : Nat} {k : Option (Addr × Bool) → Sem α} {k' : Option (Addr × Bool) → Sem β} : ρ.dom r → SR ok P A ρ (k none) (k' none) → (∀ a a' l, AR ρ a a' → SR ok P A ρ (k (some (a, l))) (k' (some (a', l)))) → SR ok P A ρ ((numberAt r).bind k) ((numberAt (ρ.to r)).bind k')
  | viewAt {ρ : Ren} {r : Nat} {k : Option (Addr × TypeId) → Sem α} {k' : Option (Addr × TypeId) → Sem β} : ρ.dom r → SR ok P A ρ (k none) (k' none) → SR ok P A ρ ((viewAt r).bind k) ((viewAt (ρ.to r)).bind k')
  | noRoom {ρ : Ren} {k : Sem α} {k' : Sem β} : SR ok P A ρ k k' → SR ok P A ρ (.mark .noRoom k) (.mark .noRoom k')
  | conv {ρ : Ren} {s t : Sem α} {s' t' : Sem β} : (∀ w es, s.runT P w es = t.runT P w es) → (∀ w es, s'.runT P w es = t'.runT P w es) → SR ok P A ρ t t' → SR ok P A ρ s s'
  | dead {ρ : Ren} {s : Sem α} {s' : Sem β} : Dead P s → SR ok P A ρ s s'
theorem conv_bind {P : Program} {α β : Type} {s t : Sem α} {f : α → Sem β} (h : ∀ w es, s.runT P w es = t.runT P w es) (w : World) (es : Array Event) : (s.bind f).runT P w es = (t.bind f).runT P w es := by
  rw [Sem.runT_bind', Sem.runT_bind', h]
theorem SR.bind {P : Program} {α β γ δ : Type} {A : Ren → α → β → Prop} {B : Ren → γ → δ → Prop} {ρ : Ren} {s : Sem α} {s' : Sem β} {f : α → Sem γ} {f' : β → Sem δ} (h : SR ok P A ρ s s')
    (hf : ∀ ρ' a b, Ext ρ ρ' → A ρ' a b → SR ok P B ρ' (f a) (f' b)) : SR ok P B ρ (s.bind f) (s'.bind f') := by
  induction h with
  | pure h => exact hf _ _ _ (Ext.refl _) h
  | load h _ ih => exact .load h fun v v' hv => ih v v' hv hf
  | store h hv _ ih => exact .store h hv (ih hf)
  | new h _ ih => exact .new h fun ρ' r e d => ih ρ' r e d fun ρ2 a b e2 => hf ρ2 a b (e.trans e2)
  | number h _ ih => exact .number h fun ρ' r e d => ih ρ' r e d fun ρ2 a b e2 => hf ρ2 a b (e.trans e2)
  | shape h _ ih => exact .shape h fun s s' hs => ih s s' hs hf
  | numberAt h _ _ ih1 ih2 => rw [Sem.bind_assoc', Sem.bind_assoc']; exact .numberAt h (ih1 hf) fun a a' l ha => ih2 a a' l ha hf
  | viewAt h _ ih => rw [Sem.bind_assoc', Sem.bind_assoc']; exact .viewAt h (ih hf)
  | choose _ ih => exact .choose fun n => ih n hf
  | program _ ih => exact .program (ih hf)
  | noRoom _ ih => exact .noRoom (ih hf)
  | conv h1 h2 _ ih => exact .conv (conv_bind h1) (conv_bind h2) (ih hf)
  | dead h => exact .dead h.bind
theorem SR.halt {P : Program} {α β : Type} {A : Ren → α → β → Prop} {ρ : Ren} {h : Halt} {s' : Sem β} (ht : Tame h := by exact True.intro) : SR ok P A ρ (.halt h) s' := .dead (Dead.halt h ht)
theorem SR.mono {P : Program} {α β : Type} {A B : Ren → α → β → Prop} {ρ : Ren} {s : Sem α} {s' : Sem β} (h : SR ok P A ρ s s') (hf : ∀ ρ' a b, Ext ρ ρ' → A ρ' a b → B ρ' a b) : SR ok P B ρ s s' := by
  induction h with
  | pure h => exact .pure (hf _ _ _ (Ext.refl _) h)
  | load h _ ih => exact .load h fun v v' hv => ih v v' hv hf
  | store h hv _ ih => exact .store h hv (ih hf)
  | new h _ ih => exact .new h fun ρ' r e d => ih ρ' r e d fun ρ2 a b e2 => hf ρ2 a b (e.trans e2)
  | number h _ ih => exact .number h fun ρ' r e d => ih ρ' r e d fun ρ2 a b e2 => hf ρ2 a b (e.trans e2)
  | shape h _ ih => exact .shape h fun s s' hs => ih s s' hs hf
  | numberAt h _ _ ih1 ih2 => exact .numberAt h (ih1 hf) fun a a' l ha => ih2 a a' l ha hf
  | viewAt h _ ih => exact .viewAt h (ih hf)
  | choose _ ih => exact .choose fun n => ih n hf
  | program _ ih => exact .program (ih hf)
  | noRoom _ ih => exact .noRoom (ih hf)
  | conv h1 h2 _ ih => exact .conv h1 h2 (ih hf)
  | dead h => exact .dead h
end Co
end

section
namespace Co
open Go

theorem viewStore_drawn {p : Program} {w w1 : World} {a k : Addr} {u : TypeId} {v : Value} {b : Bool} {t : List Addr} (h : w.viewStore p a u k v b = .ok (w1, t)) : w1.drawn = w.drawn := by
  unfold World.viewStore at h
  simp only [bind, Except.bind, pure, Except.pure, throwThe, MonadExceptOf.throw] at h
  repeat' split at h
  all_goals first
    | (cases h; done)
    | (simp only [Except.ok.injEq, Prod.mk.injEq] at h; rw [← h.1])
theorem farStore_drawn {p : Program} {w w1 : World} {a : Addr} {v : Value} {b : Bool} {t : List Addr} (h : w.farStore p a v b = .ok (w1, t)) : w1.drawn = w.drawn := by
  unfold World.farStore at h
  split at h
  · split at h
    · next r hr =>
      simp only [Except.ok.injEq] at h
      subst h
      exact viewStore_drawn hr
    · cases h
  · cases h
theorem ask_drawn {α : Type} (a : Ask α) : ∀ (w : World), w.drawn ≤ (w.ask a).2.drawn := by
  induction a with
  | done a => intro w; exact Nat.le_refl _
  | ask what range k ih =>
    intro w
    unfold World.ask
    simp only
    split
    · exact ih _ _
    · exact Nat.le_trans (Nat.le_succ _) (ih _ { w with drawn := w.drawn + 1 })
theorem sys_drawn (w : World) (c : Sys) : w.drawn ≤ (w.sys c).2.drawn := by
  have := ask_drawn (Kernel.perform c w.os) w
  unfold World.sys
  split
  · exact Nat.le_refl _
  · next r os w' h => rw [h] at this; exact this
def _root_.Go.Result.w {α : Type} : Result α → World
  | .ok _ w | .halt _ w => w
theorem runT_store {P : Program} {α : Type} {m : Mode} {a : Addr} {v : Value} {k : Sem α} {w : World} {es : Array Event} (h1 : ∀ c, v ≠ .agg c) (h2 : ∀ c, v ≠ .tuple c) :
    (Sem.store m a v k).runT P w es = (match w.cell? a with
      | some _ => if w.frozen? a then (.halt (.unsupported (.unsafePointer "a write to bytes that a string shares")) w, es) else k.runT P (w.setCell a v) (es.push ⟨.cell a, true, m == .atomic⟩)
      | none => match w.farStore P a v (m == .atomic) with
        | .ok (w, touched) => k.runT P w (es ++ touched.toArray.map (⟨.cell ·, true, m == .atomic⟩))
        | .error h => (.halt h w, es)) := by
  cases v <;> first | (exact absurd rfl (h1 _)) | (exact absurd rfl (h2 _)) | rfl
theorem runT_mono {P : Program} {α : Type} (s : Sem α) : ∀ (w : World) (es : Array Event), w.drawn ≤ (s.runT P w es).1.w.drawn := by
  induction s with
  | pure a => intro w es; exact Nat.le_refl _
  | load m a k ih =>
    intro w es
    simp only [Sem.runT]
    split
    · exact ih _ _ _
    · split
      · exact ih _ _ _
      · exact Nat.le_refl _
  | store m a v k ih =>
    intro w es
    by_cases n1 : ∃ c, v = .agg c
    · obtain ⟨c, rfl⟩ := n1
      exact Nat.le_refl _
    by_cases n2 : ∃ c, v = .tuple c
    · obtain ⟨c, rfl⟩ := n2
      exact Nat.le_refl _
    rw [runT_store (fun c e => n1 ⟨c, e⟩) (fun c e => n2 ⟨c, e⟩)]
    split
    · split
      · exact Nat.le_refl _
      · exact ih (w.setCell a v) _
    · split
      · next w1 t h => rw [← farStore_drawn h]; exact ih _ _
      · exact Nat.le_refl _
  | new o k ih => intro w es; exact ih _ { w with heap := w.heap.push o } _
  | shape r k ih => intro w es; exact ih _ _ _
  | freeze a n k ih =>
    intro w es
    have := ih (w.freeze a n) es
    simp only [Sem.runT]
    refine Nat.le_trans ?_ this
    unfold World.freeze
    split <;> exact Nat.le_refl _
  | frozen a k ih => intro w es; exact ih _ _ _
  | getObj r k ih =>
    intro w es
    simp only [Sem.runT]
    split
    · exact Nat.le_refl _
    · exact ih _ _ _
    · exact Nat.le_refl _
  | setObj r o k ih =>
    intro w es
    simp only [Sem.runT]
    split
    · exact Nat.le_refl _
    · exact ih { w with heap := w.heap.setIfInBounds r o } _
    · exact Nat.le_refl _
  | choose q k ih =>
    intro w es
    simp only [Sem.runT]
    split
    · exact ih _ _ _
    · exact Nat.le_trans (Nat.le_succ _) (ih _ { w with drawn := w.drawn + 1 } _)
  | sys c k ih =>
    intro w es
    exact Nat.le_trans (sys_drawn w c) (ih _ _ _)
  | program k ih => intro w es; exact ih _ _ _
  | mark m k ih => intro w es; exact ih _ _
  | halt h => intro w es; exact Nat.le_refl _
end Co
end
