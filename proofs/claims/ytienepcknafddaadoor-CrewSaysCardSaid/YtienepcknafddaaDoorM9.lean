/- PLAIN LAW of the model: binary operations, conversions and calls do alike in two worlds that part in the numbers of their blocks (no program text in sight). · PLAIN LAW of the model: comparisons with nil, conversions, literals and calls do alike in two worlds that part in the numbers of their blocks (no program text in sight). · PLAIN LAW of the model: comparisons of integers, conversions, slice literals and calls do alike in two worlds that part in the numbers of their blocks (no program text in sight). · PLAIN LAW of the model: the operations of a fragment (numbers, slices, records, calls of functions that are let by) do alike in two worlds that part in the numbers of their blocks (no program text in sight). · PLAIN LAW of the model: the operations of a fragment do alike (no program text in sight). -/
import Derived.Test.YtienepcknafddaaDoorM8
set_option linter.unusedVariables false
set_option linter.unusedSimpArgs false
section
namespace Co
open Go
variable {ok : FuncId → Prop} {P : Program} {ρ : Ren}

theorem viewAt_sr {ρ : Ren} {r : Nat} (h : ρ.dom r) : SR ok P (fun _ (x y : Option (Addr × TypeId)) => x = none ∧ y = none) ρ (viewAt r) (viewAt (ρ.to r)) := by
  have := SR.viewAt (ok := ok) (P := P) (ρ := ρ) (k := Sem.pure) (k' := Sem.pure) (A := fun _ (x y : Option (Addr × TypeId)) => x = none ∧ y = none) h (SR.pure ⟨rfl, rfl⟩)
  rwa [Sem.bind_pure', Sem.bind_pure'] at this
theorem cellAt_mono {p : Program} {d : Nat} {e : TypeId} {c c' off r : Nat} {n : Int} (hc : c ≤ c') (h : cellAtBytes p d e c off n = some r) : cellAtBytes p d e c' off n = some r := by
  have hm : ((c * p.bytesOf e : Nat) : Int) ≤ ((c' * p.bytesOf e : Nat) : Int) := Int.ofNat_le.2 (Nat.mul_le_mul_right _ hc)
  unfold cellAtBytes at h ⊢
  simp only at h ⊢
  split at h
  · cases h
  · next h0 =>
    rw [if_neg h0]
    cases hb : byteOfCell p d e (off % p.cellsOf e) with
    | none => rw [hb] at h; cases h
    | some here =>
      rw [hb] at h
      simp only [Option.bind_eq_bind, Option.bind_some] at h ⊢
      split at h
      · cases h
      · next h1 =>
        rw [if_neg (by
          intro h2
          apply h1
          simp only [Bool.or_eq_true, decide_eq_true_eq] at h2 ⊢
          simp only [Int.ofNat_eq_natCast] at h2 ⊢
          omega)]
        exact h
theorem unsafeAdd_sr {ρ : Ren} {a a' : Addr} (h : AR ρ a a') {y y' : Value} (hy : VR ok ρ y y') (t : TypeId) :
    SR ok P (fun ρ v v' => ∃ b b', v = .pointer (some b) ∧ v' = .pointer (some b') ∧ AR ρ b b') ρ (Builtin.unsafeAdd_ #[] t #[.pointer (some a), y]) (Builtin.unsafeAdd_ #[] t #[.pointer (some a'), y']) := by
  unfold Builtin.unsafeAdd_
  refine SR.bnd (asInt_sr hy) fun ρ1 n n' e1 hn => ?_
  subst hn
  have h1 := h.ext e1
  obtain ⟨hd, rfl⟩ := h1
  by_cases h0 : n = 0
  · simp only [h0, if_true]
    refine SR.bnd (viewAt_sr hd) fun ρ2 x y e2 hxy => ?_
    obtain ⟨rfl, rfl⟩ := hxy
    exact SR.ret ⟨_, _, rfl, rfl, AR.ext e2 ⟨hd, rfl⟩⟩
  · simp only [h0, if_false]
    by_cases hlt : n < 0
    · rw [if_pos hlt]
      exact .dead (Dead.bind (dead_unsup _))
    · rw [if_neg hlt, if_neg hlt]
      refine SR.bnd (A := fun ρ' (x y : Option (TypeId × Nat)) => ShR x y ∧ ρ'.dom a.block ∧ ρ'.to a.block = ρ1.to a.block) (SR.shape hd fun s s' hs => SR.pure ⟨hs, hd, rfl⟩) fun ρ2 x y e2 hxy => ?_
      obtain ⟨hs, hd2, ht⟩ := hxy
      rcases hs with ⟨rfl, rfl⟩ | ⟨p, rfl, rfl⟩ | ⟨e, cells, cells', rfl, rfl, hn⟩
      · exact SR.unsup
      · exact SR.unsup
      · refine SR.red (red_prog _) (red_prog _) ?_
        cases hoff : cellAtBytes P P.depth e (cells / P.cellsOf e) a.off n with
        | none => exact SR.unsup
        | some off =>
          rw [cellAt_mono (Nat.div_le_div_right hn) hoff]
          exact SR.ret ⟨_, _, rfl, rfl, hd2, by rw [ht]⟩
theorem dead_unsafeAdd_nil (y : Value) (t : TypeId) : Dead P (Builtin.unsafeAdd_ #[] t #[.pointer none, y]) := by
  unfold Builtin.unsafeAdd_
  refine Dead.then (by (first | exact quiet_prog | exact quiet_und _ | exact quiet_info _ | exact quiet_size _ | exact quiet_choose _ | exact quiet_newVar _ _ | exact quiet_elemOf _ | exact quiet_asInt _ | exact quiet_room _ | exact quiet_mark _ | exact quiet_shape _ | exact quiet_frozen _ | exact quiet_pure _ | exact quiet_bind (quiet_choose _) fun _ => quiet_pure _)) fun n => ?_
  simp only
  repeat' split
  all_goals first | exact dead_unsup _ | exact Dead.bind (dead_unsup _)
theorem moved_sr {t : TypeId} {a a' : Addr} {y y' : Value} (hx : AR ρ a a') (hy : VR ok ρ y y') {k0 : IntKind} (ht : P.underlying t = some (.int k0)) : SV ok P ρ (movedNumber t (.pointer (some a)) y) (movedNumber t (.pointer (some a')) y') := by
  unfold movedNumber
  refine SR.red (red_und ht _) (red_und ht _) ?_
  show SR ok P _ ρ (behindNumber a >>= _) (behindNumber a' >>= _)
  refine SR.bnd (behind_sr hx) fun ρ1 p q e1 hpq => ?_
  obtain ⟨b, l⟩ := p
  obtain ⟨b', l'⟩ := q
  obtain ⟨hb, hl⟩ := hpq
  simp only at hb hl
  subst hl
  refine SR.bnd (unsafeAdd_sr hb (hy.ext e1) t) fun ρ2 v v' e2 hv => ?_
  obtain ⟨c, c', rfl, rfl, hc⟩ := hv
  show SR ok P _ ρ2 (asNumber c l) (asNumber c' l)
  unfold asNumber newObj
  exact SR.number hc fun ρ3 r e3 hd => SR.pure (.ptr ⟨hd, rfl⟩)
theorem dead_moved_nil {t : TypeId} (y : Value) : Dead P (movedNumber t (.pointer none) y) := by
  unfold movedNumber
  refine Dead.then (by (first | exact quiet_prog | exact quiet_und _ | exact quiet_info _ | exact quiet_size _ | exact quiet_choose _ | exact quiet_newVar _ _ | exact quiet_elemOf _ | exact quiet_asInt _ | exact quiet_room _ | exact quiet_mark _ | exact quiet_shape _ | exact quiet_frozen _ | exact quiet_pure _ | exact quiet_bind (quiet_choose _) fun _ => quiet_pure _)) fun d => ?_
  simp only
  split
  · exact Dead.bind (dead_unsup _)
  · exact dead_unsafeAdd_nil y t
/-- the arithmetic and the comparisons that are let by -/
def ArOp : BinOp → Prop
  | .add | .sub | .mul | .quo | .lss | .leq | .gtr | .geq | .shr => True
  | _ => False
theorem intDiv_sr {k : IntKind} (op : BinOp) (x y : Int) : SV ok P ρ (Op.intDiv op k x y) (Op.intDiv op k x y) := by
  unfold Op.intDiv
  split
  · exact SR.rt
  · cases op <;> first | exact SR.ret (.int _ _) | exact SR.stuck
theorem binOp_ar {op : BinOp} (ho : ArOp op) (hg : ρ.glob = P.globals.size) {t : TypeId} {k0 : IntKind} (ht : P.underlying t = some (.int k0)) {x x' y y' : Value} (hx : VR ok ρ x x') (hy : VR ok ρ y y') : SV ok P ρ (binOp op t x y) (binOp op t x' y') := by
  by_cases hii : (∃ k a k' b, x = .int k a ∧ y = .int k' b)
  · obtain ⟨k, a, k', b, rfl, rfl⟩ := hii
    cases hx
    cases hy
    cases op <;> first | exact ho.elim | skip
    all_goals
      unfold binOp
      simp only
      first
        | exact shift_sr _ _ _
        | (split; exact SR.stuck; first | exact intArith_sr _ _ _ | exact intDiv_sr _ _ _ | exact intCmp_sr _ _ _)
  by_cases hss : (∃ a b, x = .string a ∧ y = .string b)
  · obtain ⟨a, b, rfl, rfl⟩ := hss
    cases hx
    cases hy
    cases op <;> first | exact ho.elim | skip
    all_goals
      unfold binOp
      simp only
      exact stringOp_sr _ _ _
  by_cases hpi : (∃ a k n, x = .pointer a ∧ y = .int k n)
  · obtain ⟨a, k, n, rfl, rfl⟩ := hpi
    cases hy
    cases hx with
    | ptrNil =>
      cases op <;> first | exact ho.elim | exact SR.unsup | skip
      · exact .dead (Red.dead (red_und ht _) (dead_moved_nil _))
      · exact .dead (dead_moved_nil _)
    | ptr ha =>
      cases op <;> first | exact ho.elim | exact SR.unsup | skip
      · exact SR.red (red_und ht _) (red_und ht _) (moved_sr ha (.int _ _) ht)
      · exact moved_sr ha (.int _ _) ht
  by_cases hip : (∃ a k n, y = .pointer a ∧ x = .int k n)
  · obtain ⟨a, k, n, rfl, rfl⟩ := hip
    cases hx
    cases hy with
    | ptrNil =>
      cases op <;> first | exact ho.elim | exact SR.unsup | skip
      · exact .dead (dead_moved_nil _)
    | ptr ha =>
      cases op <;> first | exact ho.elim | exact SR.unsup | skip
      · exact moved_sr ha (.int _ _) ht
  by_cases hpp : (∃ a b, x = .pointer a ∧ y = .pointer b)
  · obtain ⟨a, b, rfl, rfl⟩ := hpp
    cases hx with
    | ptrNil => cases hy <;> cases op <;> first | exact ho.elim | exact SR.unsup
    | ptr ha =>
      cases hy with
      | ptrNil => cases op <;> first | exact ho.elim | exact SR.unsup
      | ptr hb =>
        have key : ∀ (f : Addr → Addr → Sem Value) (f' : Addr → Addr → Sem Value), (∀ (ρ : Ren) (_ : ρ.glob = P.globals.size) (a a' b b' : Addr) (_ : AR ρ a a') (_ : AR ρ b b'), Dead P (f a b)) →
            SV ok P ρ (do f (← behindNumber _).1 (← behindNumber _).1) (do f' (← behindNumber _).1 (← behindNumber _).1) := fun f f' hf => by
          refine SR.bnd (behind_sr ha) fun ρ1 p q e1 hpq => ?_
          refine SR.bnd (behind_sr (hb.ext e1)) fun ρ2 r s e2 hrs => ?_
          exact .dead (hf ρ2 (by rw [e2.glob, e1.glob]; exact hg) _ _ _ _ (hpq.1.ext e2) hrs.1)
        cases op <;> first | exact ho.elim | exact SR.unsup | skip
        · exact key (Op.addrSub .u64) (Op.addrSub .u64) fun _ hg _ _ _ _ ha hb => dead_twoPlaces hg ha hb _
        · exact key (Op.addrCmp .lss) (Op.addrCmp .lss) fun _ hg _ _ _ _ ha hb => dead_twoPlaces hg ha hb _
        · exact key (Op.addrCmp .leq) (Op.addrCmp .leq) fun _ hg _ _ _ _ ha hb => dead_twoPlaces hg ha hb _
        · exact key (Op.addrCmp .gtr) (Op.addrCmp .gtr) fun _ hg _ _ _ _ ha hb => dead_twoPlaces hg ha hb _
        · exact key (Op.addrCmp .geq) (Op.addrCmp .geq) fun _ hg _ _ _ _ ha hb => dead_twoPlaces hg ha hb _
  cases hx <;> cases hy <;> first
    | exact absurd ⟨_, _, _, _, rfl, rfl⟩ hii
    | exact absurd ⟨_, _, rfl, rfl⟩ hss
    | exact absurd ⟨_, _, _, rfl, rfl⟩ hpi
    | exact absurd ⟨_, _, _, rfl, rfl⟩ hip
    | exact absurd ⟨_, _, rfl, rfl⟩ hpp
    | (cases op <;> first | exact ho.elim | exact SR.stuck | exact SR.unsup)
end Co
end

section
namespace Co
open Go
variable {ok : FuncId → Prop} {P : Program} {ρ : Ren}

def EqOp : BinOp → Prop
  | .eql | .neq => True
  | _ => False
def IsCh (v : Value) : Prop := ∃ m, v = .chan m
/-- types whose comparison never meets a channel -/
def NoChan (P : Program) (t : TypeId) : Prop := (∃ k, P.underlying t = some (.int k)) ∨ (∃ ms, P.underlying t = some (.interface ms)) ∨ ∃ e, P.underlying t = some (.slice e)
theorem dead_addr {α : Type} : Dead P (unsupported .addressObserved : Sem α) := dead_unsup _
theorem dead_eqChan {t : TypeId} (ht : NoChan P t) {x y : Value} (h : IsCh x ∨ IsCh y) : Dead P (Op.equal t x y) := by
  show Dead P (Op.equalIn (9999 + 1) t x y)
  unfold Op.equalIn
  rcases ht with ⟨k, hk⟩ | ⟨k, hk⟩ | ⟨k, hk⟩
  all_goals
    refine Red.dead (red_und hk _) ?_
    rcases h with ⟨m, rfl⟩ | ⟨m, rfl⟩
  all_goals first
    | (cases y <;> first | exact dead_stuck _ | exact dead_addr)
    | (cases x <;> first | exact dead_stuck _ | exact dead_addr | (rename_i o l c; cases o <;> exact dead_stuck _) | (rename_i o; cases o <;> first | exact dead_stuck _ | exact dead_addr))
theorem quiet_guardChan (op : BinOp) (t : TypeId) (xo yo : Operand) {x y : Value} (h : IsCh x ∨ IsCh y) : Quiet P (eqGuard op t xo yo x y) := by
  unfold eqGuard
  cases op <;> first | exact quiet_pure _ | skip
  all_goals
    rcases h with ⟨m, rfl⟩ | ⟨m, rfl⟩
  all_goals first
    | (cases y <;> exact quiet_pure _)
    | (cases x <;> exact quiet_pure _)
theorem dead_binChan {op : BinOp} (ho : EqOp op) {t : TypeId} (ht : NoChan P t) {x y : Value} (h : IsCh x ∨ IsCh y) : Dead P (binOp op t x y) := by
  have hd := dead_eqChan ht h
  unfold binOp
  cases op <;> first | exact ho.elim | skip
  all_goals
    rcases h with ⟨m, rfl⟩ | ⟨m, rfl⟩
  all_goals first
    | (cases y <;> exact Dead.bind hd)
    | (cases x <;> exact Dead.bind hd)
theorem binEq_of {op : BinOp} (ho : EqOp op) {t : TypeId} (ht : NoChan P t) {x x' y y' : Value} (h1 : ∀ k a k' b, ¬ (x = .int k a ∧ y = .int k' b)) (h2 : ∀ a b, ¬ (x = .string a ∧ y = .string b)) (hx : VR ok ρ x x') (hy : VR ok ρ y y')
    (h : SR ok P (fun _ (a b : Bool) => a = b) ρ (Op.equal t x y) (Op.equal t x' y')) : SV ok P ρ (binOp op t x y) (binOp op t x' y') := by
  by_cases hxc : IsCh x
  · exact .dead (dead_binChan ho ht (.inl hxc))
  by_cases hyc : IsCh y
  · exact .dead (dead_binChan ho ht (.inr hyc))
  have key : ∀ {x y : Value}, (∀ k a k' b, ¬ (x = .int k a ∧ y = .int k' b)) → (∀ a b, ¬ (x = .string a ∧ y = .string b)) → (∀ k a, x ≠ .float k a) → (∀ k a b, x ≠ .complex k a b) →
      binOp .eql t x y = (do Pure.pure (.bool (← Op.equal t x y))) ∧ binOp .neq t x y = (do Pure.pure (.bool (!(← Op.equal t x y)))) := by
    intro x y g1 g2 g3 g4
    constructor
    all_goals
      unfold binOp
      cases x <;> cases y <;> first | rfl | exact absurd ⟨rfl, rfl⟩ (g1 _ _ _ _) | exact absurd ⟨rfl, rfl⟩ (g2 _ _) | exact absurd rfl (g3 _ _) | exact absurd rfl (g4 _ _ _)
  have a1 : ∀ k a, x ≠ .float k a := fun k a e => by subst e; cases hx
  have a2 : ∀ k a b, x ≠ .complex k a b := fun k a b e => by subst e; cases hx
  have b1 : ∀ k a, x' ≠ .float k a := fun k a e => by subst e; cases hx; exact hxc ⟨_, rfl⟩
  have b2 : ∀ k a b, x' ≠ .complex k a b := fun k a b e => by subst e; cases hx; exact hxc ⟨_, rfl⟩
  have h1' : ∀ k a k' b, ¬ (x' = .int k a ∧ y' = .int k' b) := fun k a k' b e => by
    obtain ⟨rfl, rfl⟩ := e
    cases hx with
    | any _ _ _ _ => exact hxc ⟨_, rfl⟩
    | int k n =>
      cases hy with
      | any _ _ _ _ => exact hyc ⟨_, rfl⟩
      | int k n => exact h1 _ _ _ _ ⟨rfl, rfl⟩
  have h2' : ∀ a b, ¬ (x' = .string a ∧ y' = .string b) := fun a b e => by
    obtain ⟨rfl, rfl⟩ := e
    cases hx with
    | any _ _ _ _ => exact hxc ⟨_, rfl⟩
    | string k =>
      cases hy with
      | any _ _ _ _ => exact hyc ⟨_, rfl⟩
      | string k => exact h2 _ _ ⟨rfl, rfl⟩
  obtain ⟨k1, k2⟩ := key h1 h2 a1 a2
  obtain ⟨k3, k4⟩ := key h1' h2' b1 b2
  cases op <;> first | exact ho.elim | skip
  · rw [k1, k3]
    exact SR.bnd h fun _ a b _ e => SR.ret (by rw [e]; exact .bool _)
  · rw [k2, k4]
    exact SR.bnd h fun _ a b _ e => SR.ret (by rw [e]; exact .bool _)
theorem equal_iface {t : TypeId} {ms : Array (String × TypeId)} (ht : P.underlying t = some (.interface ms)) {x x' : Value} (hx : VR ok ρ x x') : SR ok P (fun _ (a b : Bool) => a = b) ρ (Op.equal t x .nilIface) (Op.equal t x' .nilIface) := by
  show SR ok P _ ρ (Op.equalIn (9999 + 1) t x .nilIface) (Op.equalIn (9999 + 1) t x' .nilIface)
  unfold Op.equalIn
  refine SR.red (red_und ht _) (red_und ht _) ?_
  cases hx <;> first | exact SR.ret rfl | exact SR.stuck
theorem equal_slice {t e : TypeId} (ht : SliceT P t e) {x x' : Value} (hx : VR ok ρ x x') : SR ok P (fun _ (a b : Bool) => a = b) ρ (Op.equal t x (.slice none 0 0)) (Op.equal t x' (.slice none 0 0)) := by
  show SR ok P _ ρ (Op.equalIn (9999 + 1) t x (.slice none 0 0)) (Op.equalIn (9999 + 1) t x' (.slice none 0 0))
  unfold Op.equalIn
  refine SR.red (red_und ht _) (red_und ht _) ?_
  cases hx <;> first | exact SR.ret rfl | exact SR.stuck
theorem eqIface_sr {op : BinOp} (ho : EqOp op) {t : TypeId} {ms : Array (String × TypeId)} (ht : P.underlying t = some (.interface ms)) {x x' : Value} (hx : VR ok ρ x x') (xo : Operand) :
    SV ok P ρ (do eqGuard op t xo (.const .nilIface) x .nilIface; binOp op t x .nilIface) (do eqGuard op t xo (.const .nilIface) x' .nilIface; binOp op t x' .nilIface) := by
  by_cases hxc : IsCh x
  · exact .dead (Dead.then (quiet_guardChan op t _ _ (.inl hxc)) fun _ => dead_binChan ho (.inr (.inl ⟨_, ht⟩)) (.inl hxc))
  refine SR.bnd (A := fun _ (_ _ : Unit) => True) ?_ fun ρ1 _ _ e1 _ => binEq_of ho (.inr (.inl ⟨_, ht⟩)) (by simp) (by simp) (hx.ext e1) .nilIface (equal_iface ht (hx.ext e1))
  unfold eqGuard
  cases op <;> first | exact ho.elim | skip
  all_goals cases hx <;> first | exact absurd ⟨_, rfl⟩ hxc | exact SR.ret trivial | (simp only [Bool.or_true, if_true]; exact SR.ret trivial)
theorem eqSlice_sr {op : BinOp} (ho : EqOp op) {t e : TypeId} (ht : SliceT P t e) {x x' : Value} (hx : VR ok ρ x x') (xo yo : Operand) :
    SV ok P ρ (do eqGuard op t xo yo x (.slice none 0 0); binOp op t x (.slice none 0 0)) (do eqGuard op t xo yo x' (.slice none 0 0); binOp op t x' (.slice none 0 0)) := by
  by_cases hxc : IsCh x
  · exact .dead (Dead.then (quiet_guardChan op t _ _ (.inl hxc)) fun _ => dead_binChan ho (.inr (.inr ⟨_, ht⟩)) (.inl hxc))
  refine SR.bnd (A := fun _ (_ _ : Unit) => True) ?_ fun ρ1 _ _ e1 _ => binEq_of ho (.inr (.inr ⟨_, ht⟩)) (by simp) (by simp) (hx.ext e1) (.slNil 0 0) (equal_slice ht (hx.ext e1))
  unfold eqGuard
  cases op <;> first | exact ho.elim | skip
  all_goals cases hx <;> first | exact absurd ⟨_, rfl⟩ hxc | exact SR.ret trivial
end Co
end

section
namespace Co
open Go
variable {ok : FuncId → Prop} {P : Program} {ρ : Ren}

/-- an integer's type under its own name -/
def PlainInt (P : Program) (t : TypeId) : Prop := (∃ k, P.underlying t = some (.int k)) ∧ ∀ i, P.info? t = some i → ∀ u, i.desc ≠ .named "sync.copyChecker" u
theorem equal_int {t : TypeId} (ht : PlainInt P t) (hg : ρ.glob = P.globals.size) {x x' y y' : Value} (hx : VR ok ρ x x') (hy : VR ok ρ y y') : SR ok P (fun _ (a b : Bool) => a = b) ρ (Op.equal t x y) (Op.equal t x' y') := by
  show SR ok P _ ρ (Op.equalIn (9999 + 1) t x y) (Op.equalIn (9999 + 1) t x' y')
  obtain ⟨⟨k0, hk⟩, hd⟩ := ht
  unfold Op.equalIn
  refine SR.red (red_und hk _) (red_und hk _) ?_
  by_cases hpp : ∃ a b, x = .pointer (some a) ∧ y = .pointer (some b)
  · obtain ⟨a, b, rfl, rfl⟩ := hpp
    cases hx with
    | ptr ha =>
      cases hy with
      | ptr hb =>
        refine SR.bnd (behind_sr ha) fun ρ1 p q e1 hpq => ?_
        refine SR.bnd (behind_sr (hb.ext e1)) fun ρ2 r s e2 hrs => ?_
        refine .dead (Red.dead (red_prog _) ?_)
        have hp := hpq.1.ext e2
        have hlo := ρ2.lo _ hp.1
        rw [e2.glob, e1.glob, hg] at hlo
        have hno : ¬ (p.1.block < P.globals.size) := by omega
        simp only [hno, decide_false, Bool.and_false, Bool.false_eq_true, if_false]
        cases hi : P.info? t with
        | none =>
          refine Dead.bind ?_
          refine Red.dead (red_prog _) ?_
          rw [hi]
          exact dead_stuck _
        | some inf =>
          refine Red.dead (red_info hi _) ?_
          split
          · next u h => exact absurd h (hd inf hi u)
          · exact dead_unsup _
  by_cases hsp : ∃ a n k, (x = .pointer (some a) ∧ y = .int k n) ∨ (y = .pointer (some a) ∧ x = .int k n)
  · obtain ⟨a, n, k, ⟨rfl, rfl⟩ | ⟨rfl, rfl⟩⟩ := hsp
    · cases hx with
      | ptr ha =>
        cases hy
        by_cases h0 : n = 0
        · subst h0; exact SR.ret rfl
        · refine .dead ?_
          split <;> first | exact dead_unsup _ | simp_all
    · cases hy with
      | ptr ha =>
        cases hx
        by_cases h0 : n = 0
        · subst h0; exact SR.ret rfl
        · refine .dead ?_
          split <;> first | exact dead_unsup _ | simp_all
  by_cases hii : ∃ k a k' b, x = .int k a ∧ y = .int k' b
  · obtain ⟨k, a, k', b, rfl, rfl⟩ := hii
    cases hx; cases hy
    show SR ok P _ ρ (if k = k' then _ else _) (if k = k' then _ else _)
    split
    · exact SR.ret rfl
    · exact SR.stuck
  cases hx <;> cases hy <;> first
    | exact absurd ⟨_, _, rfl, rfl⟩ hpp
    | exact absurd ⟨_, _, _, .inl ⟨rfl, rfl⟩⟩ hsp
    | exact absurd ⟨_, _, _, .inr ⟨rfl, rfl⟩⟩ hsp
    | exact absurd ⟨_, _, _, _, rfl, rfl⟩ hii
    | exact SR.stuck
    | exact SR.unsup
theorem SR.ite {α β : Type} {A : Ren → α → β → Prop} {c : Prop} [Decidable c] {s t : Sem α} {s' t' : Sem β} (h : SR ok P A ρ s s') (k : SR ok P A ρ t t') : SR ok P A ρ (if c then s else t) (if c then s' else t') := by
  split
  · exact h
  · exact k
theorem eqGuard_int {t : TypeId} (ht : PlainInt P t) {op : BinOp} {x x' y y' : Value} (hxc : ¬ IsCh x) (hyc : ¬ IsCh y) (hx : VR ok ρ x x') (hy : VR ok ρ y y') (xo yo : Operand) : SR ok P (fun _ (_ _ : Unit) => True) ρ (eqGuard op t xo yo x y) (eqGuard op t xo yo x' y') := by
  obtain ⟨⟨k0, hk⟩, _⟩ := ht
  have h0 : ∀ (a b : Value) (m : Unsupported), Red P (Op.eqGuardIn Op.maxDepth t a b >>= fun c => if c = true then unsupported m else Pure.pure ()) (Pure.pure ()) := by
    intro a b m
    refine Red.trans (Red.bind (t := Pure.pure false) ?_ _) (Red.refl _)
    show Red P (Op.eqGuardIn (9999 + 1) t a b) _
    unfold Op.eqGuardIn
    refine Red.trans (red_und hk _) ?_
    cases a <;> cases b <;> exact Red.refl _
  unfold eqGuard
  cases op <;> first | exact SR.ret trivial | skip
  all_goals cases hx <;> first | exact absurd ⟨_, rfl⟩ hxc | skip
  all_goals cases hy <;> first | exact absurd ⟨_, rfl⟩ hyc | exact SR.ret trivial | skip
  all_goals simp only [Bool.not_true, Bool.false_eq_true, if_false]
  all_goals first
    | exact SR.ite (SR.ret trivial) (SR.red (h0 _ _ _) (h0 _ _ _) (SR.ret trivial))
    | (refine SR.red (red_prog _) (red_prog _) (SR.red (red_prog _) (red_prog _) ?_)
       exact SR.ite (SR.ret trivial) (SR.red (h0 _ _ _) (h0 _ _ _) (SR.ret trivial)))
theorem eqInt_sr {op : BinOp} (ho : EqOp op) {t : TypeId} (ht : PlainInt P t) (hg : ρ.glob = P.globals.size) {x x' y y' : Value} (hx : VR ok ρ x x') (hy : VR ok ρ y y') (xo yo : Operand) :
    SV ok P ρ (do eqGuard op t xo yo x y; binOp op t x y) (do eqGuard op t xo yo x' y'; binOp op t x' y') := by
  by_cases hxc : IsCh x
  · exact .dead (Dead.then (quiet_guardChan op t _ _ (.inl hxc)) fun _ => dead_binChan ho (.inl ht.1) (.inl hxc))
  by_cases hyc : IsCh y
  · exact .dead (Dead.then (quiet_guardChan op t _ _ (.inr hyc)) fun _ => dead_binChan ho (.inl ht.1) (.inr hyc))
  refine SR.bnd (eqGuard_int ht hxc hyc hx hy xo yo) fun ρ1 _ _ e1 _ => ?_
  have hx1 := hx.ext e1
  have hy1 := hy.ext e1
  by_cases h1 : ∃ k a k' b, x = .int k a ∧ y = .int k' b
  · obtain ⟨k, a, k', b, rfl, rfl⟩ := h1
    cases hx1; cases hy1
    unfold binOp
    cases op <;> first | exact ho.elim | skip
    all_goals simp only
    all_goals split
    all_goals first | exact SR.stuck | exact intCmp_sr _ _ _
  by_cases h2 : ∃ a b, x = .string a ∧ y = .string b
  · obtain ⟨a, b, rfl, rfl⟩ := h2
    cases hx1; cases hy1
    unfold binOp
    cases op <;> first | exact ho.elim | skip
    all_goals exact stringOp_sr _ _ _
  exact binEq_of ho (.inl ht.1) (fun k a k' b e => h1 ⟨k, a, k', b, e⟩) (fun a b e => h2 ⟨a, b, e⟩) hx1 hy1 (equal_int ht (e1.glob.trans hg) hx1 hy1)
end Co
end

section
namespace Co
open Go
variable {ok : FuncId → Prop} {P : Program} {ρ : Ren}

/-! ### what is let by, to be seen by the kernel -/
def flatOk : Value → Bool
  | .bool _ | .int _ _ | .string _ | .pointer none | .slice none _ _ | .nilFunc | .nilIface => true
  | _ => false
theorem flat_vr {v : Value} (h : flatOk v = true) (ρ : Ren) : VR ok ρ v v := by
  unfold flatOk at h
  split at h
  · exact .bool _
  · exact .int _ _
  · exact .string _
  · exact .ptrNil
  · exact .slNil _ _
  · exact .nilFunc
  · exact .nilIface
  · cases h
def constOk : Value → Bool
  | .agg cs => cs.toList.all flatOk
  | v => flatOk v
theorem const_vr {v : Value} (h : constOk v = true) (ρ : Ren) : VR ok ρ v v := by
  unfold constOk at h
  split at h
  · next cs =>
    refine .agg rfl fun i v v' h1 h2 => ?_
    rw [h1] at h2
    obtain rfl := Option.some.inj h2
    rw [List.all_eq_true] at h
    exact flat_vr (h v (Array.mem_toList_iff.2 (Array.mem_of_getElem? h1))) ρ
  · exact flat_vr h ρ
def zeroB (P : Program) (t : TypeId) : Bool := match P.info? t with
  | some i => match i.zero with
    | some v => constOk v
    | none => true
  | none => true
theorem zero_ok {t : TypeId} (h : zeroB P t = true) : ZeroOk ok P t := fun i v h1 h2 ρ => by
  unfold zeroB at h
  rw [h1] at h
  simp only [h2] at h
  exact const_vr h ρ
def fieldsB (P : Program) (t : TypeId) : Bool := match P.underlying t with
  | some (.struct fs) => fs.toList.all fun f => match P.info? f.type with
    | some i => i.size != 0
    | none => true
  | _ => true
theorem fields_ok {t : TypeId} (h : fieldsB P t = true) : FieldsOk P t := fun fs h1 j f h2 i h3 h4 => by
  unfold fieldsB at h
  rw [h1] at h
  simp only [List.all_eq_true] at h
  have := h f (Array.mem_toList_iff.2 (Array.mem_of_getElem? h2))
  rw [h3] at this
  simp [h4] at this
def sliceB (P : Program) (t : TypeId) : Bool := match P.underlying t with
  | some (.slice e) => (P.info? e).isSome && zeroB P e
  | _ => false
theorem slice_ok {t : TypeId} (h : sliceB P t = true) : ∃ e inf, SliceT P t e ∧ P.info? e = some inf ∧ ZeroOk ok P e := by
  unfold sliceB at h
  split at h
  · next e he =>
    rw [Bool.and_eq_true] at h
    obtain ⟨inf, hi⟩ := Option.isSome_iff_exists.1 h.1
    exact ⟨e, inf, he, hi, zero_ok h.2⟩
  · cases h
def intB (P : Program) (t : TypeId) : Bool := match P.underlying t with
  | some (.int _) => true
  | _ => false
theorem int_ok {t : TypeId} (h : intB P t = true) : ∃ k, P.underlying t = some (.int k) := by
  unfold intB at h
  split at h
  · next k hk => exact ⟨k, hk⟩
  · cases h
def ifaceB (P : Program) (t : TypeId) : Bool := match P.underlying t with
  | some (.interface _) => true
  | _ => false
theorem iface_ok {t : TypeId} (h : ifaceB P t = true) : ∃ k, P.underlying t = some (.interface k) := by
  unfold ifaceB at h
  split at h
  · next k hk => exact ⟨k, hk⟩
  · cases h
def plainB (P : Program) (t : TypeId) : Bool := intB P t && match P.info? t with
  | some i => match i.desc with
    | .named _ _ => false
    | _ => true
  | none => true
theorem plain_ok {t : TypeId} (h : plainB P t = true) : PlainInt P t := by
  unfold plainB at h
  rw [Bool.and_eq_true] at h
  refine ⟨int_ok h.1, fun i hi u hu => ?_⟩
  have := h.2
  rw [hi] at this
  simp only [hu] at this
  cases this
def opdOk (L : List FuncId) : Operand → Bool
  | .tmp _ => true
  | .const v => flatOk v
  | .func f => L.contains f
  | _ => false
def arB : BinOp → Bool
  | .add | .sub | .mul | .quo | .lss | .leq | .gtr | .geq | .shr => true
  | _ => false
theorem ar_ok {op : BinOp} (h : arB op = true) : ArOp op := by cases op <;> first | trivial | cases h
def eqB : BinOp → Bool
  | .eql | .neq => true
  | _ => false
theorem eq_ok {op : BinOp} (h : eqB op = true) : EqOp op := by cases op <;> first | trivial | cases h
def calleeOk (P : Program) (L : List FuncId) (ats : Array TypeId) : Callee → Bool
  | .value f => opdOk L f
  | .builtin .len => match ats[0]? with
    | some t => sliceB P t
    | none => false
  | .builtin .append => match ats[0]? with
    | some t => sliceB P t && ats == #[t, t]
    | none => false
  | _ => false
def opOk (P : Program) (L : List FuncId) : Op → Bool
  | .move x | .assign x => opdOk L x
  | .pick c a b => opdOk L c && opdOk L a && opdOk L b
  | .alloc e => zeroB P e
  | .box _ x => opdOk L x
  | .buildSlice t _ parts => sliceB P t && parts.toList.all fun p => opdOk L p.2
  | .load _ a => opdOk L a
  | .store _ a x => opdOk L a && opdOk L x
  | .binOp op t x y _ => opdOk L x && opdOk L y && ((arB op && intB P t) || (eqB op && plainB P t) || (eqB op && ifaceB P t && (match y with | .const .nilIface => true | _ => false))
      || (eqB op && sliceB P t && (match y with | .const (.slice none 0 0) => true | _ => false)))
  | .unOp .not _ x => opdOk L x
  | .convert s d x => opdOk L x && intB P s && intB P d
  | .makeInterface _ x => opdOk L x
  | .makeSlice t l c => sliceB P t && opdOk L l && opdOk L c
  | .slice t x lo hi none => sliceB P t && opdOk L x && (lo.toList.all (opdOk L)) && (hi.toList.all (opdOk L))
  | .fieldAddr t x _ => fieldsB P t && opdOk L x
  | .indexAddr t x i => sliceB P t && opdOk L x && opdOk L i
  | .extract x _ => opdOk L x
  | .call c => calleeOk P L c.argTypes c.callee && c.args.toList.all (opdOk L)
  | _ => false
/-- the functions that are let by are there -/
def FunsOk (P : Program) (ok : FuncId → Prop) : Prop := ∀ f, ok f → ∃ fn, P.funcs[f]? = some fn ∧ fn.name ≠ "runtime.NumGoroutine" ∧ fn.body.isSome = true

inductive NextR (ok : FuncId → Prop) (ρ : Ren) : Next → Next → Prop
  | value {v v' : Value} : VR ok ρ v v' → NextR ok ρ (.value v) (.value v')
  | skip : NextR ok ρ .skip .skip
  | enter {f : FuncId} {a a' : Array Value} : ok f → RR ok ρ a a' → NextR ok ρ (.enter f a) (.enter f a')

/-! ### the operations -/
theorem undef_vr : VR ok ρ undef undef := .tuple rfl fun i v v' h => by simp at h
theorem tmp_vr {c c' : Array Value} (h : RR ok ρ c c') (i : Nat) : VR ok ρ (c.getD i undef) (c'.getD i undef) := by
  cases hv : c[i]? with
  | none =>
    have h2 := h.none hv
    rw [Array.getD_eq_getD_getElem?, Array.getD_eq_getD_getElem?, hv, h2]
    exact undef_vr
  | some v =>
    obtain ⟨v', h2, h3⟩ := h.get hv
    rw [Array.getD_eq_getD_getElem?, Array.getD_eq_getD_getElem?, hv, h2]
    exact h3
theorem opd_vr {L : List FuncId} (hL : ∀ f ∈ L, ok f) {fr fr' : Frame} (h : RR ok ρ fr.tmps fr'.tmps) {x : Operand} (hx : opdOk L x = true) : VR ok ρ (fr.eval x) (fr'.eval x) := by
  cases x with
  | tmp t => exact tmp_vr h t
  | const v => exact flat_vr hx ρ
  | func f => exact .func (hL f (by simpa [opdOk] using hx))
  | global g => cases hx
theorem RR.map {α : Type} (l : Array α) {f g : α → Value} (h : ∀ x ∈ l, VR ok ρ (f x) (g x)) : RR ok ρ (l.map f) (l.map g) := by
  refine ⟨by simp, fun i v v' h1 h2 => ?_⟩
  rw [Array.getElem?_map] at h1 h2
  obtain ⟨x, hx, rfl⟩ := Option.map_eq_some_iff.1 h1
  rw [hx] at h2
  obtain rfl := Option.some.inj h2
  exact h x (Array.mem_of_getElem? hx)
theorem RR.setList : ∀ (l l' : List Value) (k : Nat) {c c' : Array Value} (_ : RR ok ρ c c') (_ : l.length = l'.length) (_ : ∀ (j : Nat) v v', l[j]? = some v → l'[j]? = some v' → VR ok ρ v v') (off : Nat),
    RR ok ρ ((l.zipIdx k).foldl (fun cs (p : Value × Nat) => cs.setIfInBounds (off + p.2) p.1) c) ((l'.zipIdx k).foldl (fun cs (p : Value × Nat) => cs.setIfInBounds (off + p.2) p.1) c')
  | [], [], _, _, _, h, _, _, _ => h
  | [], _ :: _, _, _, _, _, hl, _, _ => by simp at hl
  | _ :: _, [], _, _, _, _, hl, _, _ => by simp at hl
  | x :: l, x' :: l', k, c, c', h, hl, hv, off => by
    simp only [List.zipIdx_cons, List.foldl_cons]
    exact RR.setList l l' (k + 1) (h.set _ (hv 0 x x' rfl rfl)) (by simpa using hl) (fun j v v' h1 h2 => hv (j + 1) v v' h1 h2) off
theorem fill_rr (place : Nat → Option (Nat × Nat)) : ∀ (l l' : List (Nat × Value)) {c c' : Array Value} (_ : RR ok ρ c c') (_ : l.length = l'.length) (_ : ∀ (j : Nat) p p', l[j]? = some p → l'[j]? = some p' → p.1 = p'.1 ∧ VR ok ρ p.2 p'.2) {d : Array Value},
    Instr.fill place c l = some d → ∃ d', Instr.fill place c' l' = some d' ∧ RR ok ρ d d'
  | [], [], c, c', h, _, _, d, hd => by
    simp only [Instr.fill, Option.some.injEq] at hd ⊢
    subst hd
    exact ⟨_, rfl, h⟩
  | [], _ :: _, _, _, _, hl, _, _, _ => by simp at hl
  | _ :: _, [], _, _, _, hl, _, _, _ => by simp at hl
  | (i, v) :: l, (i', v') :: l', c, c', h, hl, hv, d, hd => by
    obtain ⟨e, hvv⟩ := hv 0 _ _ rfl rfl
    simp only at e hvv
    subst e
    unfold Instr.fill at hd ⊢
    cases hp : place i with
    | none => rw [hp] at hd; cases hd
    | some q =>
      obtain ⟨off, size⟩ := q
      rw [hp] at hd
      simp only at hd ⊢
      have hc := hvv.cells
      split at hd
      · cases hd
      · next hn =>
        rw [← hc.size, ← h.size, if_neg hn]
        obtain ⟨l1, l2⟩ := hc.list
        refine fill_rr place l l' ?_ (by simpa using hl) (fun j p p' h1 h2 => hv (j + 1) p p' h1 h2) hd
        have := RR.setList v.cells.toList v'.cells.toList 0 h l1 l2 off
        rw [← Array.foldl_toList, ← Array.foldl_toList, Array.toList_zipIdx, Array.toList_zipIdx]
        exact this
theorem buildSlice_sr {t : TypeId} (ht : sliceB P t = true) (n : Nat) {α : Type} (parts : Array (Nat × α)) {f g : α → Value} (h : ∀ p ∈ parts, VR ok ρ (f p.2) (g p.2)) :
    SV ok P ρ (Instr.buildSlice t n (parts.map fun p => (p.1, f p.2))) (Instr.buildSlice t n (parts.map fun p => (p.1, g p.2))) := by
  obtain ⟨e, inf, h1, h2, h3⟩ := slice_ok (ok := ok) ht
  unfold Instr.buildSlice
  refine SR.red (red_und h1 _) (red_und h1 _) ?_
  refine SR.red (red_size h2 _) (red_size h2 _) ?_
  simp only
  have key : ∀ {ρ1 : Ren} (_ : Ext ρ ρ1) {z z' : Array Value}, RR ok ρ1 z z' → SV ok P ρ1
      (match Instr.fill (fun i => some (i * inf.size, inf.size)) ((Array.range (n * inf.size)).map (z[· % z.size]!)) (parts.map fun p => (p.1, f p.2)).toList with
        | some cells => do pure (.slice (some (← newRow e cells)) n n)
        | _ => stuck "buildSlice: a part of the wrong size")
      (match Instr.fill (fun i => some (i * inf.size, inf.size)) ((Array.range (n * inf.size)).map (z'[· % z'.size]!)) (parts.map fun p => (p.1, g p.2)).toList with
        | some cells => do pure (.slice (some (← newRow e cells)) n n)
        | _ => stuck "buildSlice: a part of the wrong size") := by
    intro ρ1 e1 z z' hz
    cases hf : Instr.fill (fun i => some (i * inf.size, inf.size)) ((Array.range (n * inf.size)).map (z[· % z.size]!)) (parts.map fun p => (p.1, f p.2)).toList with
    | none => exact SR.stuck
    | some d =>
      obtain ⟨d', hd', hr⟩ := fill_rr (ok := ok) (ρ := ρ1) _ _ ((parts.map fun p => (p.1, g p.2)).toList) (hz.fill (n * inf.size)) (by simp) (fun j p p' k1 k2 => by
        simp only [Array.toList_map, List.getElem?_map] at k1 k2
        obtain ⟨q, hq, rfl⟩ := Option.map_eq_some_iff.1 k1
        rw [hq] at k2
        obtain rfl := Option.some.inj k2
        exact ⟨rfl, (h q (by simpa using List.mem_of_getElem? hq)).ext e1⟩) hf
      rw [hd']
      exact SR.bnd (newRow_sr hr e) fun ρ2 a a' e2 ha => SR.ret (.sl _ _ ha)
  by_cases hbig : n * inf.size > 2 ^ 24
  · rw [if_pos hbig, if_pos hbig]
    exact .dead (Dead.bind (dead_unsup _))
  · rw [if_neg hbig, if_neg hbig]
    by_cases h0 : n * inf.size = 0
    · simp only [h0, if_true]
      have := key (Ext.refl ρ) (z := #[]) (z' := #[]) RR.nil
      simp only [h0] at this
      exact this
    · simp only [h0, if_false]
      exact SR.bnd (zero_sr h3) fun ρ1 v v' e1 hv => key e1 hv.cells
end Co
end

section
namespace Co
open Go
variable {ok : FuncId → Prop} {P : Program} {ρ : Ren}

theorem val_next {s s' : Sem Value} (h : SV ok P ρ s s') : SR ok P (fun ρ => NextR ok ρ) ρ (do Pure.pure (Next.value (← s))) (do Pure.pure (Next.value (← s'))) := SR.bnd h fun _ _ _ _ hv => SR.ret (.value hv)
theorem unary_sr {v v' : Value} (h : VR ok ρ v v') : SV ok P ρ (Op.unary .not v) (Op.unary .not v') := by
  cases h <;> first | exact SR.ret (.bool _) | exact SR.stuck
theorem convert_sr {s d : TypeId} (hs : intB P s = true) (hd : intB P d = true) {v v' : Value} (h : VR ok ρ v v') : SV ok P ρ (convert s d v) (convert s d v') := by
  obtain ⟨k, hk⟩ := int_ok hs
  obtain ⟨k', hk'⟩ := int_ok hd
  unfold convert
  refine SR.red (Red.trans (red_und hk _) (red_und hk' _)) (Red.trans (red_und hk _) (red_und hk' _)) ?_
  cases h <;> first | exact SR.ret (.int _ _) | exact SR.unsup
theorem callFunc_sr (hf : FunsOk P ok) {f : FuncId} (h : ok f) {a a' : Array Value} (ha : RR ok ρ a a') : SR ok P (fun ρ => NextR ok ρ) ρ (callFunc f a) (callFunc f a') := by
  obtain ⟨fn, h1, h2, h3⟩ := hf f h
  have key : ∀ x, Red P (callFunc f x) (Pure.pure (.enter f x)) := by
    intro x
    unfold callFunc
    refine Red.trans (red_prog _) ?_
    have h2' : ¬ (fn.name == "runtime.NumGoroutine") = true := by simpa using h2
    have h3' : ¬ fn.body.isNone = true := by
      cases hb : fn.body with
      | none => rw [hb] at h3; cases h3
      | some b => simp
    rw [h1]
    simp only [h2', h3', if_false]
    exact Red.refl _
  exact SR.red (key a) (key a') (SR.ret (.enter h ha))
theorem call_sr (hf : FunsOk P ok) {L : List FuncId} (hL : ∀ f ∈ L, ok f) {fr fr' : Frame} (h : RR ok ρ fr.tmps fr'.tmps) {c : Call} (hc : calleeOk P L c.argTypes c.callee = true) (hx : c.args.toList.all (opdOk L) = true) (t : TypeId) :
    SR ok P (fun ρ => NextR ok ρ) ρ (do let d ← resolve fr.eval c t; invoke d.target d.args) (do let d ← resolve fr'.eval c t; invoke d.target d.args) := by
  have ha : RR ok ρ (c.args.map fr.eval) (c.args.map fr'.eval) := RR.map c.args fun x hx' => opd_vr hL h (by
    rw [List.all_eq_true] at hx
    exact hx x (Array.mem_toList_iff.2 hx'))
  unfold resolve
  simp only
  cases hcc : c.callee with
  | invoke r m => rw [hcc] at hc; cases hc
  | value f =>
    rw [hcc] at hc
    have hv := opd_vr hL h (x := f) hc
    simp only
    generalize fr.eval f = v at hv
    generalize fr'.eval f = v' at hv
    cases hv with
    | func hfo =>
      show SR ok P _ ρ (callFunc _ ((#[] ++ c.args.map fr.eval) ++ #[])) (callFunc _ ((#[] ++ c.args.map fr'.eval) ++ #[]))
      refine callFunc_sr hf hfo ?_
      simpa using ha
    | nilFunc =>
      show SR ok P _ ρ (runtimePanic .nilDeref : Sem Next) _
      exact SR.rt
    | _ => exact .dead (Dead.bind (dead_stuck _))
  | builtin b =>
    rw [hcc] at hc
    cases b <;> first | (cases hc; done) | skip
    · have hc' : (match c.argTypes[0]? with | some t => sliceB P t && c.argTypes == #[t, t] | none => false) = true := hc
      cases h0 : c.argTypes[0]? with
      | none => rw [h0] at hc'; cases hc'
      | some u =>
        rw [h0] at hc'
        simp only [Bool.and_eq_true] at hc'
        obtain ⟨e, inf, h1, h2, h3⟩ := slice_ok (ok := ok) hc'.1
        have h4 := eq_of_beq hc'.2
        show SR ok P _ ρ (do Pure.pure (Next.value (← Builtin.append_ c.argTypes t (c.args.map fr.eval)))) (do Pure.pure (Next.value (← Builtin.append_ c.argTypes t (c.args.map fr'.eval))))
        rw [h4]
        exact val_next (append_sr h1 h2 h3 ha t)
    · have hc' : (match c.argTypes[0]? with | some t => sliceB P t | none => false) = true := hc
      cases h0 : c.argTypes[0]? with
      | none => rw [h0] at hc'; cases hc'
      | some u =>
        rw [h0] at hc'
        obtain ⟨e, inf, h1, h2, h3⟩ := slice_ok (ok := ok) hc'
        exact val_next (len_sr h1 ha t c.argTypes h0)
theorem exec_sr (hf : FunsOk P ok) {L : List FuncId} (hL : ∀ f ∈ L, ok f) (hg : ρ.glob = P.globals.size) {fr fr' : Frame} (h : RR ok ρ fr.tmps fr'.tmps) {o : Oper} (ho : opOk P L o.op = true) : SR ok P (fun ρ => NextR ok ρ) ρ (execOp fr.eval o) (execOp fr'.eval o) := by
  have V : ∀ {x : Operand}, opdOk L x = true → VR ok ρ (fr.eval x) (fr'.eval x) := fun hx => opd_vr hL h hx
  unfold execOp
  cases hop : o.op with
  | move x => rw [hop] at ho; exact SR.ret (.value (V ho))
  | assign x => rw [hop] at ho; exact SR.ret (.value (V ho))
  | pick c a b =>
    rw [hop] at ho
    simp only [opOk, Bool.and_eq_true] at ho
    have h1 := V ho.1.1
    refine SR.bnd (asBool_sr h1) fun ρ1 x y e1 hxy => ?_
    subst hxy
    refine SR.ret (.value ?_)
    cases x
    · exact (V ho.2).ext e1
    · exact (V ho.1.2).ext e1
  | alloc e => rw [hop] at ho; exact val_next (alloc_sr (zero_ok ho))
  | box e x => rw [hop] at ho; exact val_next (box_sr (V ho))
  | buildSlice t n parts =>
    rw [hop] at ho
    simp only [opOk, Bool.and_eq_true, List.all_eq_true] at ho
    exact val_next (buildSlice_sr ho.1 n parts fun p hp => V (ho.2 p (Array.mem_toList_iff.2 hp)))
  | load t a => rw [hop] at ho; exact val_next (loadAt_sr (V ho) t)
  | store t a x =>
    rw [hop] at ho
    simp only [opOk, Bool.and_eq_true] at ho
    exact SR.bnd (storeAt_sr (V ho.1) (V ho.2) t) fun _ _ _ _ _ => SR.ret .skip
  | binOp op t x y yt =>
    rw [hop] at ho
    simp only [opOk, Bool.and_eq_true, Bool.or_eq_true] at ho
    have hx := V ho.1.1
    have hy := V ho.1.2
    rcases ho.2 with ((c | c) | c) | c
    · obtain ⟨k, hk⟩ := int_ok c.2
      refine val_next (s := do eqGuard op t x y (fr.eval x) (fr.eval y); binOp op t (fr.eval x) (fr.eval y)) (s' := do eqGuard op t x y (fr'.eval x) (fr'.eval y); binOp op t (fr'.eval x) (fr'.eval y)) ?_
      refine SR.bnd (A := fun _ (_ _ : Unit) => True) ?_ fun ρ1 _ _ e1 _ => binOp_ar (ar_ok c.1) (e1.glob.trans hg) hk (hx.ext e1) (hy.ext e1)
      unfold eqGuard
      have := ar_ok c.1
      cases op <;> first | exact this.elim | exact SR.ret trivial
    · exact val_next (eqInt_sr (eq_ok c.1) (plain_ok c.2) hg hx hy x y)
    · obtain ⟨ms, hk⟩ := iface_ok c.1.2
      have hc := c.2
      split at hc
      · exact val_next (eqIface_sr (eq_ok c.1.1) hk hx x)
      · cases hc
    · obtain ⟨e, inf, h1, h2, h3⟩ := slice_ok (ok := ok) c.1.2
      have hc := c.2
      split at hc
      · exact val_next (eqSlice_sr (eq_ok c.1.1) h1 hx x _)
      · cases hc
  | unOp u t x =>
    rw [hop] at ho
    cases u <;> first | (cases ho; done) | exact val_next (unary_sr (V ho))
  | convert s d x =>
    rw [hop] at ho
    simp only [opOk, Bool.and_eq_true] at ho
    exact val_next (convert_sr ho.1.2 ho.2 (V ho.1.1))
  | makeInterface t x => rw [hop] at ho; exact val_next (makeInterface_sr (V ho) t)
  | makeSlice t l c =>
    rw [hop] at ho
    simp only [opOk, Bool.and_eq_true] at ho
    obtain ⟨e, inf, h1, h2, h3⟩ := slice_ok (ok := ok) ho.1.1
    exact val_next (makeSlice_sr h1 h2 h3 (V ho.1.2) (V ho.2))
  | slice t x lo hi mx =>
    rw [hop] at ho
    cases mx with
    | some m => cases ho
    | none =>
      simp only [opOk, Bool.and_eq_true] at ho
      obtain ⟨e, inf, h1, h2, h3⟩ := slice_ok (ok := ok) ho.1.1.1
      have ho2 := ho.1.2
      have ho3 := ho.2
      refine val_next (sliceAt_sr h1 h2 (V ho.1.1.2) ?_ ?_)
      · cases lo with
        | none => exact trivial
        | some z => exact V (by simpa using ho2)
      · cases hi with
        | none => exact trivial
        | some z => exact V (by simpa using ho3)
  | fieldAddr t x n =>
    rw [hop] at ho
    simp only [opOk, Bool.and_eq_true] at ho
    exact val_next (fieldAt_sr (fields_ok ho.1) (V ho.2) n)
  | indexAddr t x i =>
    rw [hop] at ho
    simp only [opOk, Bool.and_eq_true] at ho
    obtain ⟨e, inf, h1, h2, h3⟩ := slice_ok (ok := ok) ho.1.1
    exact val_next (indexAt_sr h1 h2 (V ho.1.2) (V ho.2))
  | extract x n => rw [hop] at ho; exact val_next (extract_sr (V ho) n)
  | call c =>
    rw [hop] at ho
    simp only [opOk, Bool.and_eq_true] at ho
    exact call_sr hf hL h ho.1 ho.2 _
  | _ => rw [hop] at ho; cases ho
end Co
end
