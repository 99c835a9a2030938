/- WALK: plain.Told and ricksteadsame.Error in company, from call to return. -/
import Derived.Test.YtienepcknafddaaDoorCxAs4
set_option linter.unusedVariables false
set_option linter.unusedSimpArgs false
namespace Go.Proofs.YtienepcknafddaaDoor
open Go Go.RowKit Go.Conc Co Cr SimPlain HeapPlain SymPlain
open Go.ConcM

noncomputable def qT1 : Code := match Tryd.f18.body with | some (.seq _ (.seq c _)) => c | _ => .skip
noncomputable def qT2 : Code := match Tryd.f18.body with | some (.seq _ (.seq _ c)) => c | _ => .skip
noncomputable def rt0 : Array Oper := match Tryd.f18.body with | some (.seq (.region _ o _) _) => o | _ => #[]
noncomputable def rt1 : Array Oper := match qT1 with | .seq (.region _ o _) _ => o | _ => #[]
noncomputable def rt2 : Array Oper := match qT1 with | .seq _ (.cond _ (.seq (.region _ o _) _) _) => o | _ => #[]
noncomputable def rt3 : Array Oper := match qT2 with | .seq (.region _ o _) _ => o | _ => #[]
noncomputable def rt4 : Array Oper := match qT2 with | .seq _ (.seq (.seq (.region _ o _) _) _) => o | _ => #[]
noncomputable def rt5 : Array Oper := match qT2 with | .seq _ (.seq (.seq _ (.cond _ (.seq (.region _ o _) _) _)) _) => o | _ => #[]
noncomputable def rt6 : Array Oper := match qT2 with | .seq _ (.seq _ (.seq (.region _ o _) _)) => o | _ => #[]
noncomputable def bodyT : Code := Tryd.f18.body.getD .skip
theorem bodyT_eq : bodyT = .seq (.region 0 rt0 false) (.seq (.seq (.region 1 rt1 false) (.cond (.tmp 5) (.seq (.region 2 rt2 false) .ret) .skip)) (.seq (.region 3 rt3 false) (.seq (.seq (.region 4 rt4 false) (.cond (.tmp 8) (.seq (.region 5 rt5 false) .ret) .skip)) (.seq (.region 6 rt6 false) .ret)))) := by kernel_rfl
noncomputable def re0 : Array Oper := match Tryd.f7.body with | some (.seq (.region _ o _) _) => o | _ => #[]
noncomputable def re1 : Array Oper := match Tryd.f7.body with | some (.seq _ (.seq (.region _ o _) _)) => o | _ => #[]
noncomputable def re2 : Array Oper := match Tryd.f7.body with | some (.seq _ (.seq _ (.seq (.region _ o _) _))) => o | _ => #[]
noncomputable def bodyE : Code := Tryd.f7.body.getD .skip
theorem bodyE_eq : bodyE = .seq (.region 0 re0 false) (.seq (.region 1 re1 false) (.seq (.region 2 re2 false) .ret)) := by kernel_rfl
section
variable {ρ : Operand → Value} {o : Oper} {x y : Operand} {A : Addr} {v : Value} {w : World}
theorem mi75e (p : Addr) (w : World) : (Instr.makeInterface 75 (.pointer (some p))).events Tryd.prog w #[] = #[] := by kernel_rfl
theorem mi75 {p : Addr} (hop : o.op = .makeInterface 75 x) (hx : ρ x = .pointer (some p)) (w : World) : (execOp ρ o).run Tryd.prog w = .ok (.value (.iface 75 (.pointer (some p)))) w ∧ (execOp ρ o).events Tryd.prog w #[] = #[] := by
  unfold execOp; simp only [hop]; simp [go_sem, hx, mi75e]
theorem ld36 (hop : o.op = .load 36 x) (hx : ρ x = .pointer (some A)) (w : World) (h : w.cell? A = some v) : (execOp ρ o).run Tryd.prog w = .ok (.value v) w ∧ (execOp ρ o).events Tryd.prog w #[] = #[⟨.cell A, false, false⟩] := by
  unfold execOp; simp only [hop, hx]; simp [go_sem, h]
end
section
variable {Post : Value → World → Prop} {r : Rts} {w : World} {n0 : Nat} {n : Int} {W0 : Past}
set_option maxRecDepth 100000 in
set_option maxHeartbeats 8000000 in
theorem told_goes {cs : List Frame} (gl : GlF W0) (hold : Hold n0 W0 r w)
    (cont : ∀ (t : Array Value) (todo : List Item) (r : Rts) (w : World), Hold n0 W0 r w → t.size = 10 → t[2]? = some (.int .i64 n) → ME Tryd.prog wgL.tWg Post (.chs []) 0 r (G { (base 18).at ⟨t, []⟩ todo with mode := .returning } cs) w) :
    ME Tryd.prog wgL.tWg Post (.chs []) 0 r (G ((base 18).at ⟨#[errV 36 n, undef, undef, undef, undef, undef, undef, undef, undef, undef], []⟩ [.code bodyT]) cs) w := by
  rw [bodyT_eq]
  simp only [rt0, rt1, rt2, rt3, rt4, rt5, qT1, qT2, Tryd.f18]
  have hF : KW r ((Sg.chs []).iv wgL.tWg) w w := ⟨Rely.refl _ _, trivial⟩
  by_cases hk : n = 0
  · subst hk
    have e0 : errV 36 0 = .nilIface := rfl
    rw [e0]
    have hev := ev_eql_nil
    refine me_run (m := 40) rfl trivial ?_
    repeat w_go kw_rely
    refine Goes.stop (fun w₁ h₁ => ?_)
    replace hF := kw_rely hF h₁
    exact cont _ _ _ _ (hold.rely hF.1) rfl rfl
  · rw [errV_bad hk]
    have hev := ev_eql_held
    refine me_run (m := 40) rfl trivial ?_
    repeat w_go kw_rely
    refine Goes.stop (fun w₁ h₁ => ?_)
    replace hF := kw_rely hF h₁
    replace hold := hold.rely hF.1
    clear h₁ hF hev
    refine me_al (f := fun x => .pointer (some ⟨x, 0, none⟩)) rfl rfl (by decide) loudT (al36 rfl) fun wa ha _ => ?_
    walk_nrm
    have hr := rely_alloc ha (.cells #[.int .i64 0] 36 (0, 0))
    have F : TF n0 W0 (r.new wa.heap.size (wa.heap.size + 1)) (wa.alloc (.cells #[.int .i64 0] 36 (0, 0))) wa.heap.size :=
      ⟨Hold.new (hold.rely hr) _ _, (hold.rely ha).le, ⟨_, _, _, alloc_here _ _, by decide, by decide⟩, new_rd_cell rfl, new_wr_cell rfl⟩
    generalize wa.alloc (.cells #[.int .i64 0] 36 (0, 0)) = w2 at F
    generalize r.new wa.heap.size (wa.heap.size + 1) = r2 at F
    generalize wa.heap.size = T at F
    clear ha hr hold
    have hF : KW r2 ((Sg.chs []).iv wgL.tWg) w2 w2 := ⟨Rely.refl _ _, trivial⟩
    refine me_run (m := 40) rfl trivial ?_
    repeat w_go kw_rely
    refine Goes.stop (fun w₁ h₁ => ?_)
    replace hF := kw_rely hF h₁
    replace F := F.rely hF.1
    clear h₁ hF
    refine me_op rfl rfl (by decide) loudT (mi75 rfl rfl) ?_
    walk_nrm
    refine me_call (c := bodyA) rfl rfl (by decide) rfl Tryd.func42 namesA (by kernel_rfl) ?_
    walk_nrmf Tryd.ntmps42
    refine As_goes gl F fun t todo r w hold hv hs h4 => ?_
    refine me_leave1 rfl rfl Tryd.func42 rfl ?_
    walk_nrm
    simp only [h4, Option.getD_some]
    clear F hs h4
    have hF : KW r ((Sg.chs []).iv wgL.tWg) w w := ⟨Rely.refl _ _, trivial⟩
    refine me_run (m := 20) rfl trivial ?_
    repeat w_go kw_rely
    refine Goes.stop (fun w₅ h₅ => ?_)
    replace hF := kw_rely hF h₅
    replace hold := hold.rely hF.1
    replace hv := hv.rely hF.1
    clear hF h₅
    refine me_ld rfl rfl (by decide) loudT rfl (ld36 rfl rfl) hv.at_ hv.rd ?_
    walk_nrm
    have hF : KW r ((Sg.chs []).iv wgL.tWg) w₅ w₅ := ⟨Rely.refl _ _, trivial⟩
    refine me_run (m := 40) rfl trivial ?_
    repeat w_go kw_rely
    refine Goes.stop (fun w₆ h₆ => ?_)
    replace hF := kw_rely hF h₆
    exact cont _ _ _ _ (hold.rely hF.1) rfl rfl
set_option maxRecDepth 100000 in
set_option maxHeartbeats 8000000 in
/-- AN ERROR OF A NUMBER IS OF THAT NUMBER -/
theorem error_goes {cs : List Frame} (gl : GlF W0) (hold : Hold n0 W0 r w)
    (cont : ∀ (t : Array Value) (todo : List Item) (r : Rts) (w : World), Hold n0 W0 r w → t.size = 11 → t[4]? = some (.bool true) → ME Tryd.prog wgL.tWg Post (.chs []) 0 r (G { (base 7).at ⟨t, []⟩ todo with mode := .returning } cs) w) :
    ME Tryd.prog wgL.tWg Post (.chs []) 0 r (G ((base 7).at ⟨#[errV 36 n, .int .i64 n, undef, undef, undef, undef, undef, undef, undef, undef, undef], []⟩ [.code bodyE]) cs) w := by
  rw [bodyE_eq]
  simp only [re0, re1, re2, Tryd.f7]
  generalize hE : errV 36 n = E
  have hF : KW r ((Sg.chs []).iv wgL.tWg) w w := ⟨Rely.refl _ _, trivial⟩
  refine me_run (m := 40) rfl trivial ?_
  repeat w_go kw_rely
  refine Goes.stop (fun w₁ h₁ => ?_)
  replace hF := kw_rely hF h₁
  replace hold := hold.rely hF.1
  clear h₁ hF
  refine me_call (c := bodyT) rfl rfl (by decide) rfl Tryd.func18 namesT (by kernel_rfl) ?_
  walk_nrmf Tryd.ntmps18
  subst hE
  refine told_goes gl hold fun t todo r w hold hs h2 => ?_
  generalize errV 36 n = E
  refine me_leave1 rfl rfl Tryd.func18 rfl ?_
  walk_nrm
  simp only [h2, Option.getD_some]
  clear hs h2
  have hF : KW r ((Sg.chs []).iv wgL.tWg) w w := ⟨Rely.refl _ _, trivial⟩
  refine me_run (m := 20) rfl trivial ?_
  repeat w_go kw_rely
  refine Goes.stop (fun w₅ h₅ => ?_)
  replace hF := kw_rely hF h₅
  exact cont _ _ _ _ (hold.rely hF.1) rfl (by simp)
end
end Go.Proofs.YtienepcknafddaaDoor
