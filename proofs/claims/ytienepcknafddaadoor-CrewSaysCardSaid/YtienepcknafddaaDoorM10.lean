/- PLAIN LAW of the model: what the order of a region tells (no program text in sight). · PLAIN LAW of the model: one step of a goroutine in a fragment of the language: what it does in a small world it does in a great one that parts from it in the numbers of its blocks (no program text in sight). -/
import Derived.Test.YtienepcknafddaaDoorM9
import Derived.Conc.Own
set_option linter.unusedVariables false
set_option linter.unusedSimpArgs false
section
namespace Co
open Go
/-! ### the order of a region -/
/-- whatever comes up in the order comes behind what it must come behind, and once -/
def Ordered (ops : Array Oper) (md : Region.Mode) (listed : Array Bool) : List Nat → Prop
  | [] => True
  | i :: l => listed.getD i true = false ∧ (∀ o, ops[i]? = some o → ∀ e ∈ o.after, Region.binds md e = true → listed.getD e.on false = true) ∧ Ordered ops md (listed.setIfInBounds i true) l
theorem go_acc (md : Region.Mode) (ops : Array Oper) : ∀ (fuel t : Nat) (listed : Array Bool) (acc : List Nat), ∃ l, Region.linearise.go md ops fuel t listed acc = acc.reverse ++ l ∧ Ordered ops md listed l := by
  intro fuel
  induction fuel with
  | zero => intro t listed acc; exact ⟨[], by simp [Region.linearise.go], trivial⟩
  | succ fuel ih =>
    intro t listed acc
    simp only [Region.linearise.go]
    split
    · next i hi =>
      obtain ⟨l, e, ho⟩ := ih (t / ((List.range ops.size).filter fun i => !listed.getD i true && ((ops[i]?).map (·.after.all fun e => !Region.binds md e || listed.getD e.on false)).getD false).length) (listed.setIfInBounds i true) (i :: acc)
      refine ⟨i :: l, by rw [e]; simp, ?_⟩
      have hm := List.mem_of_getElem? hi
      simp only [List.mem_filter, Bool.and_eq_true, Bool.not_eq_true'] at hm
      obtain ⟨_, h1, h2⟩ := hm
      refine ⟨h1, fun o ho' e he hb => ?_, ho⟩
      rw [ho'] at h2
      simp only [Option.map_some, Option.getD_some] at h2
      rw [Array.all_eq_true_iff_forall_mem] at h2
      have := h2 e he
      simpa [hb] using this
    · exact ⟨[], by simp, trivial⟩
theorem linearise_ordered (md : Region.Mode) (ops : Array Oper) (t : Nat) : Ordered ops md (Array.replicate ops.size false) (Region.linearise md ops t) := by
  obtain ⟨l, e, h⟩ := go_acc md ops ops.size t (Array.replicate ops.size false) []
  unfold Region.linearise
  rw [e]; simpa using h
theorem binds_any {md : Region.Mode} {e : Edge} (h : Region.binds .any e = true) : Region.binds md e = true := by
  unfold Region.binds at h ⊢
  split <;> simp_all
theorem Ordered.any {ops : Array Oper} {md : Region.Mode} : ∀ {l : List Nat} {x : Array Bool}, Ordered ops md x l → Ordered ops .any x l
  | [], _, _ => trivial
  | _ :: _, _, h => ⟨h.1, fun o ho e he hb => h.2.1 o ho e he (binds_any hb), h.2.2.any⟩
/-- in every way of ordering -/
theorem schedule_ordered {ops : Array Oper} (mixed : Bool) (t : Nat) : Ordered ops .any (Array.replicate ops.size false) (Region.schedule mixed ops t) := by
  unfold Region.schedule
  split
  · exact linearise_ordered .any ops t
  · exact (linearise_ordered _ ops _).any
/-- ord is a way to list all the operations, as the edges that bind ask -/
def topo (md : Region.Mode) (ops : Array Oper) : List Nat → List Nat → Bool
  | _, [] => true
  | before, i :: l => ((ops[i]?).map fun o => o.after.all fun e => !Region.binds md e || before.contains e.on).getD false && topo md ops (i :: before) l
theorem topo_ready {md : Region.Mode} {ops : Array Oper} {listed : Array Bool} : ∀ {l before : List Nat}, topo md ops before l = true → (∀ i ∈ before, listed.getD i false = true) → (∃ i ∈ l, listed.getD i false = false) → ∃ i ∈ l, listed.getD i false = false ∧ ((ops[i]?).map (·.after.all fun e => !Region.binds md e || listed.getD e.on false)).getD false = true
  | [], _, _, _, h => by obtain ⟨i, hi, _⟩ := h; cases hi
  | i :: l, before, ht, hb, h => by
    simp only [topo, Bool.and_eq_true] at ht
    obtain ⟨h1, h2⟩ := ht
    cases hi : listed.getD i false with
    | false =>
      refine ⟨i, by simp, hi, ?_⟩
      cases ho : ops[i]? with
      | none => rw [ho] at h1; simp at h1
      | some o =>
        rw [ho] at h1
        simp only [Option.map_some, Option.getD_some, Array.all_eq_true_iff_forall_mem] at h1 ⊢
        intro e he
        have := h1 e he
        simp only [Bool.or_eq_true, Bool.not_eq_true', List.contains_iff_mem] at this ⊢
        exact this.imp id (hb _)
    | true =>
      obtain ⟨j, hj, hjf⟩ := h
      have hj' : j ∈ l := by
        rcases List.mem_cons.1 hj with rfl | c
        · rw [hi] at hjf; cases hjf
        · exact c
      obtain ⟨x, hx, r⟩ := topo_ready (listed := listed) h2 (fun y hy => by
        rcases List.mem_cons.1 hy with rfl | c
        · exact hi
        · exact hb y c) ⟨j, hj', hjf⟩
      exact ⟨x, by simp [hx], r⟩
theorem getD_lt {x : Array Bool} {i : Nat} {n : Nat} (hs : x.size = n) (hi : i < n) : x.getD i true = x.getD i false := by
  rw [Array.getD_eq_getD_getElem?, Array.getD_eq_getD_getElem?, Array.getElem?_eq_getElem (by omega)]; rfl
theorem go_all {md : Region.Mode} {ops : Array Oper} {ord : List Nat} (ht : topo md ops [] ord = true) (hord : ∀ i, i < ops.size → i ∈ ord) (hord2 : ∀ i ∈ ord, i < ops.size) : ∀ (fuel t : Nat) (listed : Array Bool) (acc : List Nat), listed.size = ops.size → ((List.range ops.size).filter fun i => !listed.getD i true).length ≤ fuel → (∀ i, i < ops.size → listed.getD i true = true → i ∈ acc) → ∀ i, i < ops.size → i ∈ Region.linearise.go md ops fuel t listed acc
  | 0, t, listed, acc, hs, hc, ha, i, hi => by
    simp only [Region.linearise.go, List.mem_reverse]
    apply ha i hi
    cases hx : listed.getD i true with
    | true => rfl
    | false =>
      have : i ∈ (List.range ops.size).filter fun i => !listed.getD i true   := by
        rw [List.mem_filter, List.mem_range]
        exact ⟨hi, by rw [hx]; rfl⟩
      rw [List.length_eq_zero_iff.1 (Nat.le_zero.1 hc)] at this
      cases this
  | fuel + 1, t, listed, acc, hs, hc, ha, i, hi => by
    simp only [Region.linearise.go]
    split
    · next j hj =>
      have hm := List.mem_of_getElem? hj
      simp only [List.mem_filter, List.mem_range, Bool.and_eq_true, Bool.not_eq_true'] at hm
      obtain ⟨hjs, hjf, _⟩ := hm
      refine go_all ht hord hord2 fuel _ _ _ (by simpa using hs) ?_ (fun x hx hxt => ?_) i hi
      · have e1 : ((List.range ops.size).filter fun i => !(listed.setIfInBounds j true).getD i true) = ((List.range ops.size).filter fun i => !listed.getD i true).filter fun i => i != j := by
          rw [List.filter_filter]
          congr 1
          funext x
          by_cases hxj : x = j
          · subst hxj
            rw [Array.getD_eq_getD_getElem?, Array.getElem?_setIfInBounds_self_of_lt (by omega)]
            simp
          · rw [Array.getD_eq_getD_getElem?, Array.getElem?_setIfInBounds_ne (Ne.symm hxj), ← Array.getD_eq_getD_getElem?]
            simp [hxj]
        rw [e1]
        have : (((List.range ops.size).filter fun i => !listed.getD i true).filter fun i => i != j).length < ((List.range ops.size).filter fun i => !listed.getD i true).length := by
          rw [List.length_filter_lt_length_iff_exists]
          exact ⟨j, by rw [List.mem_filter, List.mem_range]; exact ⟨hjs, by rw [hjf]; rfl⟩, by simp⟩
        omega
      · by_cases hxj : x = j
        · subst hxj; simp
        · rw [Array.getD_eq_getD_getElem?, Array.getElem?_setIfInBounds_ne (Ne.symm hxj), ← Array.getD_eq_getD_getElem?] at hxt
          exact List.mem_cons_of_mem _ (ha x hx hxt)
    · next hn =>
      simp only [List.mem_reverse]
      apply ha i hi
      cases hx : listed.getD i true with
      | true => rfl
      | false =>
        obtain ⟨j, hj, hjf, hjr⟩ := topo_ready (listed := listed) ht (fun x hx => by cases hx) ⟨i, hord i hi, by rw [← getD_lt hs hi]; exact hx⟩
        have hjs := hord2 j hj
        have hmem : j ∈ (List.range ops.size).filter fun i => !listed.getD i true && ((ops[i]?).map (·.after.all fun e => !Region.binds md e || listed.getD e.on false)).getD false := by
          simp only [List.mem_filter, List.mem_range, Bool.and_eq_true, Bool.not_eq_true']
          exact ⟨hjs, by rw [getD_lt hs hjs]; exact hjf, hjr⟩
        have hpos := List.length_pos_of_mem hmem
        rw [List.getElem?_eq_none_iff] at hn
        exact absurd (Nat.mod_lt t hpos) (by omega)
theorem linearise_all {md : Region.Mode} {ops : Array Oper} {ord : List Nat} (ht : topo md ops [] ord = true) (hord : ∀ i, i < ops.size → i ∈ ord) (hord2 : ∀ i ∈ ord, i < ops.size) (t : Nat) {i : Nat} (hi : i < ops.size) : i ∈ Region.linearise md ops t := by
  unfold Region.linearise
  refine go_all ht hord hord2 _ _ _ _ (by simp) ?_ (fun x hx hxt => ?_) i hi
  · exact Nat.le_trans (List.length_filter_le _ _) (by simp)
  · rw [Array.getD_eq_getD_getElem?, Array.getElem?_replicate, if_pos hx] at hxt
    cases hxt
/-- every operation comes up, in every way of ordering -/
theorem schedule_all {ops : Array Oper} {o1 o2 : List Nat} (h1 : topo .text ops [] o1 = true) (h2 : topo .gc ops [] o2 = true) (c1 : ∀ i, i < ops.size → i ∈ o1) (c2 : ∀ i ∈ o1, i < ops.size) (d1 : ∀ i, i < ops.size → i ∈ o2) (d2 : ∀ i ∈ o2, i < ops.size) (hany : topo .any ops [] o1 = true) (mixed : Bool) (t : Nat) {i : Nat} (hi : i < ops.size) : i ∈ Region.schedule mixed ops t := by
  unfold Region.schedule
  split
  · exact linearise_all hany c1 c2 t hi
  · split
    · exact linearise_all h1 c1 c2 _ hi
    · exact linearise_all h2 d1 d2 _ hi
/-- what is listed is listed with all that must come ahead of it -/
def Closed (ops : Array Oper) (md : Region.Mode) (listed : Array Bool) : Prop := ∀ a o, listed.getD a false = true → ops[a]? = some o → ∀ e ∈ o.after, Region.binds md e = true → listed.getD e.on false = true
def OrdInv (ops : Array Oper) (l : List Nat) : Prop := ∃ listed : Array Bool, listed.size = ops.size ∧ Ordered ops .any listed l ∧ Closed ops .any listed
theorem getD_set {x : Array Bool} {i j : Nat} {d : Bool} (h : x.getD j d = true) : (x.setIfInBounds i true).getD j d = true := by
  rw [Array.getD_eq_getD_getElem?] at h ⊢
  rw [Array.getElem?_setIfInBounds]
  split
  · next e =>
    subst e
    split
    · rfl
    · next hlt =>
      rw [Array.getElem?_eq_none (by omega)] at h
      exact h
  · exact h
theorem OrdInv.tail {ops : Array Oper} {i : Nat} {l : List Nat} (h : OrdInv ops (i :: l)) : OrdInv ops l := by
  obtain ⟨x, h1, ⟨h2, h3, h4⟩, h5⟩ := h
  refine ⟨x.setIfInBounds i true, by simpa using h1, h4, fun a o ha ho e he hb => ?_⟩
  by_cases hai : a = i
  · subst hai
    exact getD_set (h3 o ho e he hb)
  · have : x.getD a false = true := by
      rw [Array.getD_eq_getD_getElem?, Array.getElem?_setIfInBounds_ne (Ne.symm hai), ← Array.getD_eq_getD_getElem?] at ha
      exact ha
    exact getD_set (h5 a o this ho e he hb)
theorem OrdInv.start {ops : Array Oper} (mixed : Bool) (t : Nat) : OrdInv ops (Region.schedule mixed ops t) := by
  refine ⟨Array.replicate ops.size false, by simp, schedule_ordered mixed t, fun a o ha _ => ?_⟩
  rw [Array.getD_eq_getD_getElem?, Array.getElem?_replicate] at ha
  split at ha <;> simp at ha
theorem ordered_fresh {ops : Array Oper} {md : Region.Mode} : ∀ {l : List Nat} {x : Array Bool} {j : Nat}, Ordered ops md x l → j ∈ l → x.getD j true = false
  | i :: l, x, j, h, hj => by
    rcases List.mem_cons.1 hj with rfl | hj
    · exact h.1
    · have := ordered_fresh h.2.2 hj
      cases hx : x.getD j true with
      | false => rfl
      | true => rw [getD_set hx] at this; cases this
/-- behind operation n nothing is left that n must come behind -/
theorem OrdInv.behind {ops : Array Oper} {n : Nat} {r : List Nat} (h : OrdInv ops (n :: r)) (hn : n < ops.size) : ∃ listed : Array Bool, (∀ j ∈ r, listed.getD j false = false ∧ j ≠ n) ∧ (∀ o, ops[n]? = some o → ∀ e ∈ o.after, Region.binds .any e = true → listed.getD e.on false = true) ∧ Closed ops .any listed := by
  obtain ⟨x, h1, ⟨h2, h3, h4⟩, h5⟩ := h
  refine ⟨x, fun j hj => ?_, h3, h5⟩
  have hf := ordered_fresh h4 hj
  have e1 : x.getD j true = false := by
    cases hx : x.getD j true with
    | false => rfl
    | true => rw [getD_set hx] at hf; cases hf
  constructor
  · rw [Array.getD_eq_getD_getElem?] at e1 ⊢
    cases hx : x[j]? with
    | none => rfl
    | some v => rw [hx] at e1; exact e1
  · intro e
    subst e
    rw [Array.getD_eq_getD_getElem?, Array.getElem?_setIfInBounds_self_of_lt (by omega)] at hf
    cases hf
end Co
end

section
namespace Co
open Go Go.Conc

/-! ### code that is let by -/
def codeOk (P : Program) (L : List FuncId) (r : Bool) : Code → Bool
  | .skip | .label _ | .exit _ | .goto _ => true
  | .ret => r
  | .seq a b => codeOk P L r a && codeOk P L r b
  | .cond c a b => opdOk L c && codeOk P L r a && codeOk P L r b
  | .block _ c | .loop c | .scope c => codeOk P L r c
  | .region _ ops _ => ops.toList.all fun o => opOk P L o.op
  | _ => false
def itemOk (P : Program) (L : List FuncId) (r : Bool) : Item → Bool
  | .code c | .inLoop c | .inScope c => codeOk P L r c
  | .inBlock _ => true
  | .inRegion ops _ => ops.toList.all fun o => opOk P L o.op
  | _ => false
def resB (fn : Func) : Bool := fn.results.toList.all fun r => match r with
  | .tmp _ => true
  | _ => false
def funB (P : Program) (L : List FuncId) (f : FuncId) : Bool := match P.funcs[f]? with
  | some fn => fn.name != "runtime.NumGoroutine" && resB fn && match fn.body with
    | some b => codeOk P L true b
    | none => false
  | none => false
def FunsB (P : Program) (L : List FuncId) : Prop := ∀ f ∈ L, funB P L f = true
theorem FunsB.ok {P : Program} {L : List FuncId} (h : FunsB P L) : FunsOk P (· ∈ L) := fun f hf => by
  have := h f hf
  unfold funB at this
  split at this
  · next fn hfn =>
    simp only [Bool.and_eq_true] at this
    refine ⟨fn, hfn, by simpa using this.1.1, ?_⟩
    have h2 := this.2
    split at h2
    · next b hb => rw [hb]; rfl
    · cases h2
  · cases this
/-- a frame of the fragment's -/
def mkF (f : FuncId) (t : Array Value) (todo : List Item) (mode : FrameMode) : Frame := { fn := f, tmps := t, todo, defers := [], mode, kind := .normal }
def Live (m : FrameMode) : Prop := m = .run ∨ m = .returning
/-- what a frame of the great one's bears beside: what is to be done behind the stretch, what is deferred, how it was called -/
structure Bot where
  k : List Item
  ds : List Deferred
  kd : CallKind
  /-- one operation that is stepped by hand: its number, the ghost's row of operations, the great one's -/
  sp : Option (Nat × Array Oper × Array Oper) := none
  /-- the function, if it is told -/
  fn : Option FuncId := none
def gF (b : Bot) (f : FuncId) (t : Array Value) (pre : List Item) (mode : FrameMode) : Frame := { fn := f, tmps := t, todo := pre ++ b.k, defers := b.ds, mode, kind := b.kd }
def bot0 : Bot := ⟨[], [], .normal, none, none⟩
structure FnAt (P : Program) (b : Bot) (f : FuncId) : Prop where
  ex : ∃ fn, P.funcs[f]? = some fn
  at_ : b.fn = none ∨ b.fn = some f
/-- the ghost's row of operations and the great one's: one operation apart -/
structure SpOk (n : Nat) (og oq : Array Oper) : Prop where
  size : og.size = oq.size
  same : ∀ i : Nat, i ≠ n → og[i]? = oq[i]?
  /-- it comes up, however the region is ordered -/
  lists : ∀ (mixed : Bool) (t : Nat), n ∈ Region.schedule mixed og t
  nop : ∃ o v, og[n]? = some o ∧ o.op = .assign (.const v)
  key : ∀ i : Nat, (og[i]?).map (fun o : Oper => (o.dst, o.after, o.guard)) = (oq[i]?).map (fun o : Oper => (o.dst, o.after, o.guard))
/-- a region in its two forms -/
inductive SpForm (n : Nat) (og oq : Array Oper) : List Item → List Item → Prop
  | code (id : Nat) : SpForm n og oq [.code (.region id og true)] [.code (.region id oq true)]
  | reg (l : List Nat) : OrdInv og l → n ∈ l → SpForm n og oq [.inRegion og l] [.inRegion oq l]
/-- a frame and its like: up: a called function; else the frame at the foot, that runs a stretch of its code -/
inductive FR (L : List FuncId) (P : Program) (ρ : Ren) : (up : Bool) → Bot → Frame → Frame → Prop
  | mk {up : Bool} {b : Bot} (f : FuncId) {t t' : Array Value} (pre : List Item) (mode : FrameMode) : FnAt P b f → (up = true → f ∈ L ∧ b = bot0) → (up = false → mode = .run) → Live mode → b.kd ≠ .early →
      (∀ x ∈ pre, itemOk P L up x = true) → RR (· ∈ L) ρ t t' → b.sp = none → FR L P ρ up b (mkF f t pre mode) (gF b f t' pre mode)
  | sp {b : Bot} (f : FuncId) {t t' : Array Value} {n : Nat} {og oq : Array Oper} {pre pre2 : List Item} : FnAt P b f → b.kd ≠ .early → b.sp = some (n, og, oq) → SpOk n og oq → SpForm n og oq pre pre2 →
      (∀ o ∈ og.toList, opOk P L o.op = true) → RR (· ∈ L) ρ t t' → FR L P ρ false b (mkF f t pre .run) (gF b f t' pre2 .run)
/-- the operation that is stepped by hand is not next -/
def NotNow (b : Bot) (a : Frame) : Prop := ∀ n og oq r, b.sp = some (n, og, oq) → a.todo ≠ [.inRegion og (n :: r)]
theorem NotNow.none {b : Bot} (h : b.sp = none) (a : Frame) : NotNow b a := fun n og oq r e => by rw [h] at e; cases e
/-- the frames of the two, from the top; the foot is b -/
inductive SK (L : List FuncId) (P : Program) (ρ : Ren) (b : Bot) : List Frame → List Frame → Prop
  | bot {a a' : Frame} : FR L P ρ false b a a' → SK L P ρ b [a] [a']
  | cons {a a' : Frame} {l l' : List Frame} : FR L P ρ true bot0 a a' → (∀ x, l.head? = some x → x.mode = .run ∧ x.todo ≠ [] ∧ NotNow b x) → SK L P ρ b l l' → SK L P ρ b (a :: l) (a' :: l')
section
variable {L : List FuncId} {P : Program} {ρ ρ' : Ren}
theorem FR.ext (e : Ext ρ ρ') {up : Bool} {b : Bot} {a a' : Frame} (h : FR L P ρ up b a a') : FR L P ρ' up b a a' := by
  cases h with
  | mk f pre mode h0 h1 h2 h3 h4 h5 h6 h7 => exact .mk f pre mode h0 h1 h2 h3 h4 h5 (h6.ext e) h7
  | sp f h0 h4 h1 h2 h3 h5 h6 => exact .sp f h0 h4 h1 h2 h3 h5 (h6.ext e)
theorem SpOk.dst {n : Nat} {og oq : Array Oper} (h : SpOk n og oq) (i : Nat) : (og[i]?).bind (fun o : Oper => o.dst) = (oq[i]?).bind (fun o : Oper => o.dst) := by
  have := h.key i
  cases h1 : og[i]? with
  | none =>
    rw [h1] at this
    cases h2 : oq[i]? with
    | none => rfl
    | some o => rw [h2] at this; cases this
  | some o =>
    rw [h1] at this
    cases h2 : oq[i]? with
    | none => rw [h2] at this; cases this
    | some o' =>
      rw [h2] at this
      simp only [Option.map_some, Option.some.injEq, Prod.mk.injEq] at this
      exact this.1
theorem SK.ext (e : Ext ρ ρ') {b : Bot} {a a' : List Frame} (h : SK L P ρ b a a') : SK L P ρ' b a a' := by
  induction h with
  | bot h1 => exact .bot (h1.ext e)
  | cons h1 hm _ ih => exact .cons (h1.ext e) hm ih
theorem FR.finish {up : Bool} {b : Bot} {a a' : Frame} (h : FR L P ρ up b a a') (hne : a.todo ≠ []) (hnn : NotNow b a) {v v' : Value} (hv : VR (· ∈ L) ρ v v') : FR L P ρ up b (a.finish v) (a'.finish v') ∧ (a.finish v).mode = a.mode := by
  cases h with
  | @mk _ _ f t t' pre mode h0 h1 h2 h3 h4 h5 h6 h7 =>
    cases pre with
    | nil => exact absurd rfl hne
    | cons x k =>
      have h8 : b.sp = none := h7
      have hx := h5 x (by simp)
      cases x with
      | inRegion ops td =>
        cases td with
        | nil => exact ⟨.mk f _ mode h0 h1 h2 h3 h4 h5 h6 h8, rfl⟩
        | cons i r =>
          have h5' : ∀ x ∈ Item.inRegion ops r :: k, itemOk P L up x = true := fun y hy => by
            rcases List.mem_cons.1 hy with rfl | hy
            · exact hx
            · exact h5 y (by simp [hy])
          unfold Frame.finish mkF gF
          simp only [List.cons_append]
          cases hd : (ops[i]?).bind (·.dst) with
          | none => exact ⟨.mk f _ mode h0 h1 h2 h3 h4 h5' h6 h8, trivial⟩
          | some d => exact ⟨.mk f _ mode h0 h1 h2 h3 h4 h5' (h6.set d hv) h8, trivial⟩
      | code c => exact ⟨.mk f _ mode h0 h1 h2 h3 h4 h5 h6 h8, rfl⟩
      | inBlock c => exact ⟨.mk f _ mode h0 h1 h2 h3 h4 h5 h6 h8, rfl⟩
      | inLoop c => exact ⟨.mk f _ mode h0 h1 h2 h3 h4 h5 h6 h8, rfl⟩
      | inScope c => exact ⟨.mk f _ mode h0 h1 h2 h3 h4 h5 h6 h8, rfl⟩
      | _ => cases hx
  | @sp _ f t t' n og oq pre pre2 h0 h4 h1 h2 h3 h5 h6 =>
    cases h3 with
    | code id => exact ⟨.sp f h0 h4 h1 h2 (.code id) h5 h6, rfl⟩
    | reg l hl hm =>
      cases l with
      | nil => cases hm
      | cons i r =>
        have hin : i ≠ n := fun e => hnn n og oq r h1 (by rw [e]; rfl)
        have hmr : n ∈ r := (List.mem_cons.1 hm).resolve_left (Ne.symm hin)
        unfold Frame.finish mkF gF
        simp only [List.cons_append, List.nil_append]
        have hd := h2.dst i
        rw [← hd]
        cases hd2 : (og[i]?).bind (·.dst) with
        | none => exact ⟨.sp f h0 h4 h1 h2 (.reg r hl.tail hmr) h5 h6, trivial⟩
        | some d => exact ⟨.sp f h0 h4 h1 h2 (.reg r hl.tail hmr) h5 (h6.set d hv), trivial⟩
/-- what comes back to the frame at the top of a stack -/
theorem SK.finish {b : Bot} {a a' : Frame} {l l' : List Frame} (h : SK L P ρ b (a :: l) (a' :: l')) (hne : a.todo ≠ []) (hnn : NotNow b a) {v v' : Value} (hv : VR (· ∈ L) ρ v v') : SK L P ρ b (a.finish v :: l) (a'.finish v' :: l') := by
  cases h with
  | bot h1 => exact .bot (h1.finish hne hnn hv).1
  | cons h1 h2 h3 => exact .cons (h1.finish hne (NotNow.none rfl _) hv).1 h2 h3
theorem SK.split {b : Bot} {l l' : List Frame} (h : SK L P ρ b l l') : ∃ a k a' k', l = a :: k ∧ l' = a' :: k' := by
  cases h <;> exact ⟨_, _, _, _, rfl, rfl⟩
theorem yielded_eq {t t' : Array Value} {ok : FuncId → Prop} (h : RR ok ρ t t') (ops : Array Oper) (j : Nat) : yielded ops t j = yielded ops t' j := by
  unfold yielded
  cases (ops[j]?).bind (·.dst) with
  | none => rfl
  | some d =>
    simp only [Option.bind_some]
    cases hv : t[d]? with
    | none => rw [h.none hv]
    | some v =>
      obtain ⟨v', h2, h3⟩ := h.get hv
      rw [h2]
      cases h3 with
      | any _ _ hb _ => cases v' <;> first | rfl | exact absurd rfl (hb _)
      | _ => rfl
theorem yielded_dst {ops ops2 : Array Oper} (h : ∀ i : Nat, (ops[i]?).bind (·.dst) = (ops2[i]?).bind (·.dst)) (t : Array Value) : yielded ops t = yielded ops2 t := by
  funext j
  unfold yielded
  rw [h j]
theorem wanted_eq {t t' : Array Value} {ok : FuncId → Prop} (h : RR ok ρ t t') (ops : Array Oper) : yielded ops t = yielded ops t' := funext fun j => yielded_eq h ops j
theorem enter_fr (hF : FunsB P L) {f : FuncId} (hf : f ∈ L) {a a' : Array Value} (ha : RR (· ∈ L) ρ a a') : FR L P ρ true bot0 (Frame.enter P f a .normal) (Frame.enter P f a' .normal) ∧ (Frame.enter P f a .normal).mode = .run := by
  have := hF f hf
  unfold funB at this
  split at this
  · next fn hfn =>
    simp only [Bool.and_eq_true] at this
    have h2 := this.2
    split at h2
    · next b hb =>
      have e : ∀ x : Array Value, Frame.enter P f x .normal = mkF f (x ++ Array.replicate (fn.ntmps - x.size) undef) [.code b] .run := fun x => by
        unfold Frame.enter
        rw [hfn]
        simp only [Option.bind_some, hb, Option.map_some, Option.getD_some]
        rfl
      rw [e, e]
      refine ⟨.mk f [.code b] .run ⟨⟨fn, hfn⟩, .inl rfl⟩ (fun _ => ⟨hf, rfl⟩) (fun c => by cases c) (.inl rfl) (by simp [bot0]) (fun x hx => ?_) (ha.append ?_) rfl, rfl⟩
      · simp only [List.mem_cons, List.not_mem_nil, or_false] at hx
        subst hx; exact h2
      · rw [ha.size]
        refine ⟨rfl, fun i v v' k1 k2 => ?_⟩
        rw [Array.getElem?_replicate] at k1 k2
        split at k1
        · next hi =>
          rw [if_pos hi] at k2
          obtain rfl := Option.some.inj k1
          obtain rfl := Option.some.inj k2
          exact undef_vr
        · cases k1
    · cases h2
  · cases this
variable {up : Bool}
theorem exit_items {id : Nat} : ∀ {k k' : List Item} (_ : exitTo id k = some k') (_ : ∀ x ∈ k, itemOk P L up x = true), ∀ x ∈ k', itemOk P L up x = true
  | [], _, h, _ => by cases h
  | y :: k, k', h, hk => by
    have hk' : ∀ x ∈ k, itemOk P L up x = true := fun x hx => hk x (by simp [hx])
    unfold exitTo at h
    split at h
    · next id' k2 e =>
      simp only [List.cons.injEq] at e
      obtain ⟨rfl, rfl⟩ := e
      split at h
      · simp only [Option.some.injEq] at h; subst h; exact hk'
      · exact exit_items h hk'
    · next k2 e =>
      simp only [List.cons.injEq] at e
      obtain ⟨rfl, rfl⟩ := e
      exact exit_items h hk'
    · cases h
theorem label_ok {l : Nat} : ∀ {c r : Code} (_ : findLabel c l = some r) (_ : codeOk P L up c = true), codeOk P L up r = true
  | .seq a b, r, h, hc => by
    simp only [codeOk, Bool.and_eq_true] at hc
    simp only [findLabel] at h
    split at h
    · next rest hr =>
      simp only [Option.some.injEq] at h
      subst h
      simp only [codeOk, Bool.and_eq_true]
      exact ⟨label_ok hr hc.1, hc.2⟩
    · exact label_ok h hc.2
  | .label l', r, h, hc => by
    simp only [findLabel] at h
    split at h
    · simp only [Option.some.injEq] at h; subst h; rfl
    · cases h
  | .skip, _, h, _ | .ret, _, h, _ | .exit _, _, h, _ | .goto _, _, h, _ | .cond _ _ _, _, h, _ | .block _ _, _, h, _ | .loop _, _, h, _ | .scope _, _, h, _ | .region _ _ _, _, h, _ | .rangeFunc _ _ _ _, _, h, _ | .refuse _, _, h, _ => by simp [findLabel] at h
theorem goto_items {l : Nat} : ∀ {k k' : List Item} (_ : gotoIn l k = some k') (_ : ∀ x ∈ k, itemOk P L up x = true), ∀ x ∈ k', itemOk P L up x = true
  | [], _, h, _ => by cases h
  | y :: k, k', h, hk => by
    have hk' : ∀ x ∈ k, itemOk P L up x = true := fun x hx => hk x (by simp [hx])
    unfold gotoIn at h
    split at h
    · next body k2 e =>
      simp only [List.cons.injEq] at e
      obtain ⟨rfl, rfl⟩ := e
      have hb : codeOk P L up body = true := hk (.inScope body) (by simp)
      split at h
      · next rest hr =>
        simp only [Option.some.injEq] at h
        subst h
        intro x hx
        simp only [List.mem_cons] at hx
        rcases hx with rfl | rfl | hx
        · exact label_ok hr hb
        · exact hb
        · exact hk' x hx
      · exact goto_items h hk'
    · next k2 e =>
      simp only [List.cons.injEq] at e
      obtain ⟨rfl, rfl⟩ := e
      exact goto_items h hk'
    · cases h
theorem exitTo_app {id : Nat} (k2 : List Item) : ∀ {k k' : List Item}, exitTo id k = some k' → exitTo id (k ++ k2) = some (k' ++ k2)
  | [], _, h => by cases h
  | y :: k, k', h => by
    cases y <;> first
      | exact exitTo_app k2 (k := k) h
      | (next id' =>
          simp only [exitTo, List.cons_append] at h ⊢
          split at h
          · next e => rw [if_pos e]; simp only [Option.some.injEq] at h ⊢; rw [h]
          · next e => rw [if_neg e]; exact exitTo_app k2 h)
theorem gotoIn_app {id : Nat} (k2 : List Item) : ∀ {k k' : List Item}, gotoIn id k = some k' → gotoIn id (k ++ k2) = some (k' ++ k2)
  | [], _, h => by cases h
  | y :: k, k', h => by
    cases y <;> first
      | exact gotoIn_app k2 (k := k) h
      | (next body =>
          simp only [gotoIn, List.cons_append] at h ⊢
          split at h
          · next rest e => simp only [Option.some.injEq] at h ⊢; rw [← h]; rfl
          · next e => exact gotoIn_app k2 h)
def seenOne (P : Program) (x : Bool × Array Event) (e : Event) : Bool × Array Event := match e.loc with
  | .mark (.extern f) => ((P.funcs[f]?).any (·.norace), x.2)
  | _ => (x.1, if x.1 && !e.sync then x.2 else x.2.push e)
theorem seen_eq {P : Program} {f : FuncId} {es : Array Event} : seen P f es = (es.toList.foldl (seenOne P) ((P.funcs[f]?).any (·.norace), #[])).2 := by
  rw [Array.foldl_toList]; rfl
theorem seen_in {P : Program} {f : FuncId} {es : Array Event} : ∀ e ∈ seen P f es, e ∈ es := by
  have key : ∀ (l : List Event) (x : Bool × Array Event), ∀ e ∈ (l.foldl (seenOne P) x).2, e ∈ x.2 ∨ e ∈ l := by
    intro l
    induction l with
    | nil => intro x e he; exact .inl he
    | cons y l ih =>
      intro x e he
      simp only [List.foldl_cons] at he
      rcases ih _ e he with c | c
      · unfold seenOne at c
        split at c
        · exact .inl c
        · simp only at c
          split at c
          · exact .inl c
          · rcases Array.mem_push.1 c with c | c
            · exact .inl c
            · exact .inr (by simp [c])
      · exact .inr (by simp [c])
  intro e he
  rw [seen_eq] at he
  rcases key es.toList _ e he with c | c
  · simp at c
  · simpa using c
end
end Co
end
