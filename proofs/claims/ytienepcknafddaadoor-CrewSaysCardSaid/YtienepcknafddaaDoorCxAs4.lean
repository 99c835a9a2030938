/- WALK: errors.As in company, from its call to its return. -/
import Derived.Test.YtienepcknafddaaDoorCxAs3
set_option linter.unusedVariables false
set_option linter.unusedSimpArgs false
namespace Go.Proofs.YtienepcknafddaaDoor
open Go Go.RowKit Go.Conc Co Cr SimPlain HeapPlain SymPlain
open Go.ConcM

/-- what errors.errorType holds -/
def eT : Value := .iface 102 (.agg #[.pointer (some ⟨1, 26, none⟩)])
structure GlF (W0 : Past) : Prop where
  K : W0.K 0
  at_ : W0.w.cell? ⟨0, 0, none⟩ = some eT
theorem GlF.cl {n0 : Nat} {W0 : Past} {r : Rts} {w : World} (g : GlF W0) (h : Hold n0 W0 r w) : Cl r w 0 0 eT :=
  ⟨(World.cell?_of_block (h.keep.blk _ g.K)).trans g.at_, h.old _ g.K⟩
theorem ev_eql_nil (w : World) (es : Array Event) : (binOp .eql 26 .nilIface .nilIface).events Tryd.prog w es = es := by
  have h : ∀ d, (Op.equalIn (d + 1) 26 .nilIface .nilIface).events Tryd.prog w es = es := fun d => by simp [Op.equalIn, run_underlying errTy]
  have h' : (Op.equal 26 .nilIface .nilIface).events Tryd.prog w es = es := h 9999
  simp only [binOp]
  simp [h', run_equal_nil_nil w 26 errTy]
theorem ev_eql_held (w : World) (es : Array Event) (u : TypeId) (x : Value) : (binOp .eql 26 (.iface u x) .nilIface).events Tryd.prog w es = es := by
  have h : ∀ d, (Op.equalIn (d + 1) 26 (.iface u x) .nilIface).events Tryd.prog w es = es := fun d => by simp [Op.equalIn, run_underlying errTy]
  have h' : (Op.equal 26 (.iface u x) .nilIface).events Tryd.prog w es = es := h 9999
  simp only [binOp]
  simp [h', run_equal_held_nil w 26 u x errTy]
theorem anyTy : Tryd.prog.underlying 20 = some (.interface (Tryd.prog.methodsAt 20)) := by kernel_rfl
theorem ev_eql_any (w : World) (es : Array Event) (u : TypeId) (x : Value) : (binOp .eql 20 (.iface u x) .nilIface).events Tryd.prog w es = es := by
  have h : ∀ d, (Op.equalIn (d + 1) 20 (.iface u x) .nilIface).events Tryd.prog w es = es := fun d => by simp [Op.equalIn, run_underlying anyTy]
  have h' : (Op.equal 20 (.iface u x) .nilIface).events Tryd.prog w es = es := h 9999
  simp only [binOp]
  simp [h', run_equal_held_nil w 20 u x anyTy]
theorem ld91 {ρ : Operand → Value} {o : Oper} {x : Operand} {A : Addr} {v : Value} (hop : o.op = .load 91 x) (hx : ρ x = .pointer (some A)) (w : World) (h : w.cell? A = some v) : (execOp ρ o).run Tryd.prog w = .ok (.value v) w ∧ (execOp ρ o).events Tryd.prog w #[] = #[⟨.cell A, false, false⟩] := by
  unfold execOp; simp only [hop, hx]; simp [go_sem, h]
theorem xType : Extern.find Tryd.f52 = some (Extern.ReflectliteValue.methodAny (Extern.ReflectliteValue.valueError "reflectlite.Value.Type" 0) (fun t _ _ _ => Extern.ReflectliteType.toType t)) := by kernel_rfl
theorem xKind : Extern.find Tryd.f78 = some (Extern.ReflectliteType.abiMethod fun t => (fun a : Nat => Value.int IntKind.u8 (a : Int)) <$> Extern.Rtype.kind t) := by kernel_rfl
theorem xElemT : Extern.find Tryd.f88 = some (Extern.ReflectliteType.method Extern.ReflectliteType.elem) := by kernel_rfl
theorem xImpl : Extern.find Tryd.f89 = some (Extern.ReflectliteType.relation "Implements" Extern.ReflectliteType.implements_) := by kernel_rfl
section
variable {Post : Value → World → Prop} {r : Rts} {w : World} {T n0 : Nat} {n : Int} {W0 : Past}
set_option maxRecDepth 100000 in
set_option maxHeartbeats 8000000 in
/-- up to the Value of the target -/
theorem As_head {cs : List Frame} (F : TF n0 W0 r w T)
    (cont : ∀ (t : Array Value) (r : Rts) (w : World) (V1 B : Nat), TF n0 W0 r w T → Cl r w V1 0 (.pointer (some ⟨T, 0, none⟩)) → Rv r w B ⟨1, 75, none⟩ ⟨V1, 0, none⟩ 150 → t.size = 42 → t[0]? = some (.iface 36 (.int .i64 n)) → t[1]? = some (.iface 75 (.pointer (some ⟨T, 0, none⟩))) → t[5]? = some (.pointer (some ⟨B, 0, none⟩)) →
      ME Tryd.prog wgL.tWg Post (.chs []) 0 r (G ((base 42).at ⟨t, []⟩ [.code bodyA6]) cs) w) :
    ME Tryd.prog wgL.tWg Post (.chs []) 0 r (G ((base 42).at ⟨#[.iface 36 (.int .i64 n), .iface 75 (.pointer (some ⟨T, 0, none⟩)), undef, undef, undef, undef, undef, undef, undef, undef, undef, undef, undef, undef, undef, undef, undef, undef, undef, undef, undef, undef, undef, undef, undef, undef, undef, undef, undef, undef, undef, undef, undef, undef, undef, undef, undef, undef, undef, undef, undef, undef], []⟩ [.code bodyA]) cs) w := by
  rw [bodyA_eq']
  simp only [ra0, ra1, ra2, ra3, ra4, ra5, qA1, qA2, qA3, Tryd.f42]
  have hev := ev_eql_held
  have hev2 := ev_eql_any
  have hF : KW r ((Sg.chs []).iv wgL.tWg) w w := ⟨Rely.refl _ _, trivial⟩
  refine me_run (m := 40) rfl trivial ?_
  repeat w_go kw_rely
  refine Goes.stop (fun w₁ h₁ => ?_)
  replace hF := kw_rely hF h₁
  replace F := F.rely hF.1
  clear h₁ hF hev hev2
  refine me_valueOfP rfl rfl (by decide) rfl rfl fun wa ha _ => ?_
  walk_nrm
  have hr := rely_alloc ha (.cells #[.pointer (some ⟨T, 0, none⟩)] 75)
  replace F := (F.rely hr).new wa.heap.size (wa.heap.size + 1)
  have V : Cl (r.new wa.heap.size (wa.heap.size + 1)) (wa.alloc (.cells #[.pointer (some ⟨T, 0, none⟩)] 75)) wa.heap.size 0 (.pointer (some ⟨T, 0, none⟩)) := ⟨by unfold World.cell?; simp only [alloc_here]; rfl, new_rd_cell rfl⟩
  generalize wa.alloc (.cells #[.pointer (some ⟨T, 0, none⟩)] 75) = w2 at F V
  generalize r.new wa.heap.size (wa.heap.size + 1) = r2 at F V
  generalize wa.heap.size = V1 at F V
  clear ha hr
  refine me_al (f := fun x => .pointer (some ⟨x, 0, none⟩)) rfl rfl (by decide) loudA (al88 rfl) fun wb hb _ => ?_
  walk_nrm
  have z0 : Cr.Row (wb.alloc (.cells #[.pointer none, .pointer none, .int .u64 0] 88 (0, 0))) wb.heap.size 0 := ⟨_, _, _, alloc_here _ _, by decide, by decide⟩
  have z1 : Cr.Row (wb.alloc (.cells #[.pointer none, .pointer none, .int .u64 0] 88 (0, 0))) wb.heap.size 1 := ⟨_, _, _, alloc_here _ _, by decide, by decide⟩
  have z2 : Cr.Row (wb.alloc (.cells #[.pointer none, .pointer none, .int .u64 0] 88 (0, 0))) wb.heap.size 2 := ⟨_, _, _, alloc_here _ _, by decide, by decide⟩
  refine me_st88 rfl rfl (by decide) rfl rfl rfl z0 z1 z2 (fun a ha => new_rd_cell ha) (fun a ha => new_wr_cell ha) fun wc hc => ?_
  walk_nrm
  have hr : Rely r2 w2 (set88 wc wb.heap.size ⟨1, 75, none⟩ ⟨V1, 0, none⟩ 150) := hb.trans (rely_set88 ((rely_alloc (Rely.refl r2 wb) _).trans (rely_of_new hc)) (Nat.le_refl _) _ _ _)
  replace F := (F.rely hr).new wb.heap.size (wb.heap.size + 1)
  replace V := (V.rely hr).new wb.heap.size (wb.heap.size + 1)
  have R : Rv (r2.new wb.heap.size (wb.heap.size + 1)) (set88 wc wb.heap.size ⟨1, 75, none⟩ ⟨V1, 0, none⟩ 150) wb.heap.size ⟨1, 75, none⟩ ⟨V1, 0, none⟩ 150 := ⟨at_set88 _ _ _ (z0.rely hc) (z1.rely hc) (z2.rely hc), fun a ha => new_rd_cell ha⟩
  generalize set88 wc wb.heap.size ⟨1, 75, none⟩ ⟨V1, 0, none⟩ 150 = w3 at F V R
  generalize r2.new wb.heap.size (wb.heap.size + 1) = r3 at F V R
  generalize wb.heap.size = B at F V R
  clear hb hr hc z0 z1 z2
  have hF : KW r3 ((Sg.chs []).iv wgL.tWg) w3 w3 := ⟨Rely.refl _ _, trivial⟩
  refine me_run (m := 2) rfl trivial ?_
  w_go kw_rely
  refine Goes.stop (fun w₁ h₁ => ?_)
  replace hF := kw_rely hF h₁
  exact cont _ _ _ V1 B (F.rely hF.1) (V.rely hF.1) (R.rely hF.1) rfl rfl rfl rfl
theorem arr42 {t : Array Value} (h : t.size = 42) : ∃ x0 x1 x2 x3 x4 x5 x6 x7 x8 x9 x10 x11 x12 x13 x14 x15 x16 x17 x18 x19 x20 x21 x22 x23 x24 x25 x26 x27 x28 x29 x30 x31 x32 x33 x34 x35 x36 x37 x38 x39 x40 x41 : Value, t = #[x0, x1, x2, x3, x4, x5, x6, x7, x8, x9, x10, x11, x12, x13, x14, x15, x16, x17, x18, x19, x20, x21, x22, x23, x24, x25, x26, x27, x28, x29, x30, x31, x32, x33, x34, x35, x36, x37, x38, x39, x40, x41] := by
  obtain ⟨l⟩ := t
  have k0 : l.length = 42 := h
  clear h
  obtain ⟨x0, l1, rfl, k1⟩ := cons_of k0
  obtain ⟨x1, l2, rfl, k2⟩ := cons_of k1
  obtain ⟨x2, l3, rfl, k3⟩ := cons_of k2
  obtain ⟨x3, l4, rfl, k4⟩ := cons_of k3
  obtain ⟨x4, l5, rfl, k5⟩ := cons_of k4
  obtain ⟨x5, l6, rfl, k6⟩ := cons_of k5
  obtain ⟨x6, l7, rfl, k7⟩ := cons_of k6
  obtain ⟨x7, l8, rfl, k8⟩ := cons_of k7
  obtain ⟨x8, l9, rfl, k9⟩ := cons_of k8
  obtain ⟨x9, l10, rfl, k10⟩ := cons_of k9
  obtain ⟨x10, l11, rfl, k11⟩ := cons_of k10
  obtain ⟨x11, l12, rfl, k12⟩ := cons_of k11
  obtain ⟨x12, l13, rfl, k13⟩ := cons_of k12
  obtain ⟨x13, l14, rfl, k14⟩ := cons_of k13
  obtain ⟨x14, l15, rfl, k15⟩ := cons_of k14
  obtain ⟨x15, l16, rfl, k16⟩ := cons_of k15
  obtain ⟨x16, l17, rfl, k17⟩ := cons_of k16
  obtain ⟨x17, l18, rfl, k18⟩ := cons_of k17
  obtain ⟨x18, l19, rfl, k19⟩ := cons_of k18
  obtain ⟨x19, l20, rfl, k20⟩ := cons_of k19
  obtain ⟨x20, l21, rfl, k21⟩ := cons_of k20
  obtain ⟨x21, l22, rfl, k22⟩ := cons_of k21
  obtain ⟨x22, l23, rfl, k23⟩ := cons_of k22
  obtain ⟨x23, l24, rfl, k24⟩ := cons_of k23
  obtain ⟨x24, l25, rfl, k25⟩ := cons_of k24
  obtain ⟨x25, l26, rfl, k26⟩ := cons_of k25
  obtain ⟨x26, l27, rfl, k27⟩ := cons_of k26
  obtain ⟨x27, l28, rfl, k28⟩ := cons_of k27
  obtain ⟨x28, l29, rfl, k29⟩ := cons_of k28
  obtain ⟨x29, l30, rfl, k30⟩ := cons_of k29
  obtain ⟨x30, l31, rfl, k31⟩ := cons_of k30
  obtain ⟨x31, l32, rfl, k32⟩ := cons_of k31
  obtain ⟨x32, l33, rfl, k33⟩ := cons_of k32
  obtain ⟨x33, l34, rfl, k34⟩ := cons_of k33
  obtain ⟨x34, l35, rfl, k35⟩ := cons_of k34
  obtain ⟨x35, l36, rfl, k36⟩ := cons_of k35
  obtain ⟨x36, l37, rfl, k37⟩ := cons_of k36
  obtain ⟨x37, l38, rfl, k38⟩ := cons_of k37
  obtain ⟨x38, l39, rfl, k39⟩ := cons_of k38
  obtain ⟨x39, l40, rfl, k40⟩ := cons_of k39
  obtain ⟨x40, l41, rfl, k41⟩ := cons_of k40
  obtain ⟨x41, l42, rfl, k42⟩ := cons_of k41
  obtain rfl := List.eq_nil_of_length_eq_zero k42
  exact ⟨x0, x1, x2, x3, x4, x5, x6, x7, x8, x9, x10, x11, x12, x13, x14, x15, x16, x17, x18, x19, x20, x21, x22, x23, x24, x25, x26, x27, x28, x29, x30, x31, x32, x33, x34, x35, x36, x37, x38, x39, x40, x41, rfl⟩
set_option maxRecDepth 100000 in
set_option maxHeartbeats 8000000 in
/-- the kind of the target is looked at -/
theorem As_mid {cs : List Frame} {t : Array Value} {V1 B : Nat} (gl : GlF W0) (F : TF n0 W0 r w T) (V : Cl r w V1 0 (.pointer (some ⟨T, 0, none⟩))) (R : Rv r w B ⟨1, 75, none⟩ ⟨V1, 0, none⟩ 150)
    (hs : t.size = 42) (t0 : t[0]? = some (.iface 36 (.int .i64 n))) (t1 : t[1]? = some (.iface 75 (.pointer (some ⟨T, 0, none⟩)))) (t5 : t[5]? = some (.pointer (some ⟨B, 0, none⟩)))
    (cont : ∀ (t : Array Value) (r : Rts) (w : World), TF n0 W0 r w T → Cl r w V1 0 (.pointer (some ⟨T, 0, none⟩)) → Rv r w B ⟨1, 75, none⟩ ⟨V1, 0, none⟩ 150 → t.size = 42 → t[0]? = some (.iface 36 (.int .i64 n)) → t[1]? = some (.iface 75 (.pointer (some ⟨T, 0, none⟩))) → t[5]? = some (.pointer (some ⟨B, 0, none⟩)) → t[7]? = some (.iface 102 (.agg #[.pointer (some ⟨1, 36, none⟩)])) →
      ME Tryd.prog wgL.tWg Post (.chs []) 0 r (G ((base 42).at ⟨t, []⟩ [.code bodyA10]) cs) w) :
    ME Tryd.prog wgL.tWg Post (.chs []) 0 r (G ((base 42).at ⟨t, []⟩ [.code bodyA6]) cs) w := by
  obtain ⟨x0, x1, x2, x3, x4, x5, x6, x7, x8, x9, x10, x11, x12, x13, x14, x15, x16, x17, x18, x19, x20, x21, x22, x23, x24, x25, x26, x27, x28, x29, x30, x31, x32, x33, x34, x35, x36, x37, x38, x39, x40, x41, rfl⟩ := arr42 hs
  obtain rfl : x0 = _ := by simpa using t0
  obtain rfl : x1 = _ := by simpa using t1
  obtain rfl : x5 = _ := by simpa using t5
  clear hs t0 t1 t5
  rw [bodyA6_eq]
  simp only [ra6, ra7, ra9, qA4, qA5, qA6, qA3, qA2, qA1, Tryd.f42]
  have hF : KW r ((Sg.chs []).iv wgL.tWg) w w := ⟨Rely.refl _ _, trivial⟩
  refine me_run (m := 3) rfl trivial ?_
  repeat w_go kw_rely
  refine Goes.stop (fun w₁ h₁ => ?_)
  replace hF := kw_rely hF h₁
  replace F := F.rely hF.1
  replace V := V.rely hF.1
  replace R := R.rely hF.1
  clear h₁ hF
  refine me_ld88 rfl rfl (by decide) rfl rfl R.at_ R.rd ?_
  walk_nrm
  refine me_ent rfl rfl (by decide) rfl Tryd.func52 (by kernel_rfl) (by kernel_rfl) (by kernel_rfl) xType (vs := #[rvV ⟨1, 75, none⟩ ⟨V1, 0, none⟩ 150]) (by simp only [List.map_toArray, List.map_cons, List.map_nil]; rfl) (fun W => As.type27 _ W) (fun W => AsE.type27 _ W _) ?_
  walk_nrm
  have hF : KW r ((Sg.chs []).iv wgL.tWg) w₁ w₁ := ⟨Rely.refl _ _, trivial⟩
  refine me_run (m := 9) rfl trivial ?_
  repeat w_go kw_rely
  refine Goes.stop (fun w₂ h₂ => ?_)
  replace hF := kw_rely hF h₂
  replace F := F.rely hF.1
  replace V := V.rely hF.1
  replace R := R.rely hF.1
  clear h₂ hF
  refine me_inv rfl rfl (by decide) rfl rfl (fun W => As.methodKind _ W) (fun W => AsE.methodKind _ W) Tryd.func78 (by kernel_rfl) (by kernel_rfl) (by kernel_rfl) xKind (vs := #[]) (by simp only [List.map_toArray, List.map_nil]) (fun W => As.kind27 W) (fun W => AsE.kind27 W _) ?_
  walk_nrm
  have hF : KW r ((Sg.chs []).iv wgL.tWg) w₂ w₂ := ⟨Rely.refl _ _, trivial⟩
  refine me_run (m := 9) rfl trivial ?_
  repeat w_go kw_rely
  refine Goes.stop (fun w₃ h₃ => ?_)
  replace hF := kw_rely hF h₃
  replace F := F.rely hF.1
  replace V := V.rely hF.1
  replace R := R.rely hF.1
  clear h₃ hF
  refine me_ld88 rfl rfl (by decide) rfl rfl R.at_ R.rd ?_
  walk_nrm
  refine me_isNil rfl rfl (by decide) rfl rfl V.at_ V.rd ?_
  walk_nrm
  have hF : KW r ((Sg.chs []).iv wgL.tWg) w₃ w₃ := ⟨Rely.refl _ _, trivial⟩
  refine me_run (m := 12) rfl trivial ?_
  repeat w_go kw_rely
  refine Goes.stop (fun w₄ h₄ => ?_)
  replace hF := kw_rely hF h₄
  replace F := F.rely hF.1
  replace V := V.rely hF.1
  replace R := R.rely hF.1
  clear h₄ hF
  refine me_inv rfl rfl (by decide) rfl rfl (fun W => As.methodElem _ W) (fun W => AsE.methodElem _ W) Tryd.func88 (by kernel_rfl) (by kernel_rfl) (by kernel_rfl) xElemT (vs := #[]) (by simp only [List.map_toArray, List.map_nil]) (fun W => As.elem27 W) (fun W => AsE.elem27 W _) ?_
  walk_nrm
  have hF : KW r ((Sg.chs []).iv wgL.tWg) w₄ w₄ := ⟨Rely.refl _ _, trivial⟩
  refine me_run (m := 2) rfl trivial ?_
  w_go kw_rely
  w_go kw_rely
  refine Goes.stop (fun w₅ h₅ => ?_)
  replace hF := kw_rely hF h₅
  refine cont _ _ _ (F.rely hF.1) (V.rely hF.1) (R.rely hF.1) ?_ ?_ ?_ ?_ ?_ <;> rfl
set_option maxRecDepth 100000 in
set_option maxHeartbeats 8000000 in
/-- ERRORS.AS of an Errno, for an Errno's address -/
theorem As_goes {cs : List Frame} (gl : GlF W0) (F : TF n0 W0 r w T)
    (cont : ∀ (t : Array Value) (todo : List Item) (r : Rts) (w : World), Hold n0 W0 r w → Cl r w T 0 (.int .i64 n) → t.size = 42 → t[4]? = some (.bool true) → ME Tryd.prog wgL.tWg Post (.chs []) 0 r (G { (base 42).at ⟨t, []⟩ todo with mode := .returning } cs) w) :
    ME Tryd.prog wgL.tWg Post (.chs []) 0 r (G ((base 42).at ⟨#[.iface 36 (.int .i64 n), .iface 75 (.pointer (some ⟨T, 0, none⟩)), undef, undef, undef, undef, undef, undef, undef, undef, undef, undef, undef, undef, undef, undef, undef, undef, undef, undef, undef, undef, undef, undef, undef, undef, undef, undef, undef, undef, undef, undef, undef, undef, undef, undef, undef, undef, undef, undef, undef, undef], []⟩ [.code bodyA]) cs) w := by
  refine As_head F fun t r w V1 B F V R hs t0 t1 t5 => ?_
  refine As_mid gl F V R hs t0 t1 t5 fun t r w F V R hs t0 t1 t5 t7 => ?_
  obtain ⟨x0, x1, x2, x3, x4, x5, x6, x7, x8, x9, x10, x11, x12, x13, x14, x15, x16, x17, x18, x19, x20, x21, x22, x23, x24, x25, x26, x27, x28, x29, x30, x31, x32, x33, x34, x35, x36, x37, x38, x39, x40, x41, rfl⟩ := arr42 hs
  obtain rfl : x0 = _ := by simpa using t0
  obtain rfl : x1 = _ := by simpa using t1
  obtain rfl : x5 = _ := by simpa using t5
  obtain rfl : x7 = _ := by simpa using t7
  clear hs t0 t1 t5 t7
  rw [bodyA10_eq]
  simp only [ra10, ra11, ra12, qA8, qA7, qA6, qA5, qA4, qA3, qA2, qA1, Tryd.f42]
  have hF : KW r ((Sg.chs []).iv wgL.tWg) w w := ⟨Rely.refl _ _, trivial⟩
  refine me_run (m := 9) rfl trivial ?_
  repeat w_go kw_rely
  refine Goes.stop (fun w₁ h₁ => ?_)
  replace hF := kw_rely hF h₁
  replace F := F.rely hF.1
  replace V := V.rely hF.1
  replace R := R.rely hF.1
  clear h₁ hF
  refine me_inv rfl rfl (by decide) rfl rfl (fun W => As.methodKind _ W) (fun W => AsE.methodKind _ W) Tryd.func78 (by kernel_rfl) (by kernel_rfl) (by kernel_rfl) xKind (vs := #[]) (by simp only [List.map_toArray, List.map_nil]) (fun W => As.kind25 W) (fun W => AsE.kind25 W _) ?_
  walk_nrm
  have hF : KW r ((Sg.chs []).iv wgL.tWg) w₁ w₁ := ⟨Rely.refl _ _, trivial⟩
  refine me_run (m := 9) rfl trivial ?_
  w_go kw_rely
  w_go kw_rely
  w_go kw_rely
  refine Goes.stop (fun w₂ h₂ => ?_)
  replace hF := kw_rely hF h₂
  replace F := F.rely hF.1
  replace V := V.rely hF.1
  replace R := R.rely hF.1
  clear h₂ hF
  have hg := gl.cl F.hold
  refine me_ld rfl rfl (by decide) loudA rfl (ld91 rfl rfl) hg.at_ hg.rd ?_
  walk_nrm
  unfold eT
  refine me_inv rfl rfl (by decide) rfl rfl (fun W => As.methodImplements _ W) (fun W => AsE.methodImplements _ W) Tryd.func89 (by kernel_rfl) (by kernel_rfl) (by kernel_rfl) xImpl (vs := #[.iface 102 (.agg #[.pointer (some ⟨1, 26, none⟩)])]) (by simp only [List.map_toArray, List.map_cons, List.map_nil]; rfl) (fun W => As.implements25 W) (fun W => AsE.implements25 W _) ?_
  walk_nrm
  have hF : KW r ((Sg.chs []).iv wgL.tWg) w₂ w₂ := ⟨Rely.refl _ _, trivial⟩
  refine me_run (m := 12) rfl trivial ?_
  repeat w_go kw_rely
  refine Goes.stop (fun w₃ h₃ => ?_)
  replace hF := kw_rely hF h₃
  replace F := F.rely hF.1
  replace V := V.rely hF.1
  replace R := R.rely hF.1
  clear h₃ hF hg
  refine me_ld88 rfl rfl (by decide) rfl rfl R.at_ R.rd ?_
  walk_nrm
  have hF : KW r ((Sg.chs []).iv wgL.tWg) w₃ w₃ := ⟨Rely.refl _ _, trivial⟩
  refine me_run (m := 1) rfl trivial ?_
  w_go kw_rely
  refine Goes.stop (fun w₄ h₄ => ?_)
  replace hF := kw_rely hF h₄
  replace F := F.rely hF.1
  replace V := V.rely hF.1
  clear h₄ hF R
  refine me_call (c := bodyB) rfl rfl (by decide) rfl Tryd.func54 namesB (by kernel_rfl) ?_
  walk_nrmf Tryd.ntmps54
  refine as_goes F V fun t todo r w hold hv hs h8 => ?_
  refine me_leave1 rfl rfl Tryd.func54 rfl ?_
  walk_nrm
  simp only [h8, Option.getD_some]
  clear F V hs h8
  have hF : KW r ((Sg.chs []).iv wgL.tWg) w w := ⟨Rely.refl _ _, trivial⟩
  refine me_run (m := 6) rfl trivial ?_
  repeat w_go kw_rely
  refine Goes.stop (fun w₅ h₅ => ?_)
  replace hF := kw_rely hF h₅
  exact cont _ _ _ _ (hold.rely hF.1) (hv.rely hF.1) rfl rfl
end
end Go.Proofs.YtienepcknafddaaDoor
