/- PLAIN LAW of the model: calls, returns, stores of the starter's, in company (no program text in sight). · PLAIN LAW of the library: the starter calls Add(1), Wait() (no program text in sight). · WALK: gather, from its call to its return. · WALK: crew.Sort: its text in parts; the check of its items, alone. · WALK: crew.Sort in company: the check of its items. · WALK: crew.Sort in company: how many hands; the row for their work; the group. -/
import Derived.Test.YtienepcknafddaaDoorM26
import Derived.Test.YtienepcknafddaaDoorM27
import Derived.Test.YtienepcknafddaaDoorM29
import Derived.Conc.Own4
set_option linter.unusedVariables false
set_option linter.unusedSimpArgs false
section
namespace Cr
open Go Go.Conc Co Go.RowKit
section
variable {P : Program} {ty : TypeId} {Post : Value → World → Prop} {σ : Sg} {d : Nat} {r : Rts} {b : Frame} {a : _root_.Go.Act} {k : List Item} {cs : List Frame} {w : World} {ops : Array Oper} {i : Nat} {rest : List Nat} {o : Oper}
theorem me_call {f : FuncId} {fn : Func} {c : Code} {args : Array Operand} {ats : Array TypeId} (ho : ops[i]? = some o) (hw : Region.wanted o (yielded ops a.tmps) = true) (hk : b.kind ≠ .early) (hop : o.op = .call { callee := .value (.func f), args, argTypes := ats })
    (hf : P.funcs[f]? = some fn) (hname : (fn.name == "runtime.NumGoroutine") = false) (hb : fn.body = some c)
    (hT : ME P ty Post σ d r (G ((base f).at { tmps := args.map a.eval ++ Array.replicate (fn.ntmps - (args.map a.eval).size) undef, defers := [] } [.code c]) (b.at a (.inRegion ops (i :: rest) :: k) :: cs)) w) :
    ME P ty Post σ d r (G (b.at a (.inRegion ops (i :: rest) :: k)) cs) w := by
  have hb' : fn.body.isNone = false := by rw [hb]; rfl
  refine me_ctl rfl (fun w1 => ?_) hT
  rw [stepG_enter ho hw hk (run_call_body hop hf hname hb'), enter_at _ hf hb]
  have : listed P b.fn a o w1 = #[] := by unfold listed; rw [events_call_body hop hf hname hb']; exact seen_none P _
  rw [this]
variable {fn : Func} {todo : List Item} {b₀ : Frame} {a₀ : _root_.Go.Act}
theorem me_leave1 {t : Tmp} (hn : b.kind = .normal) (hd : a.defers = []) (hf : P.funcs[b.fn]? = some fn) (hr : fn.results = #[.tmp t])
    (hT : ME P ty Post σ d r (G (b₀.at (a₀.put ((ops[i]?).bind (·.dst)) (a.tmps.getD t undef)) (.inRegion ops rest :: k)) cs) w) :
    ME P ty Post σ d r (G { b.at a todo with mode := .returning } (b₀.at a₀ (.inRegion ops (i :: rest) :: k) :: cs)) w :=
  me_ctl rfl (fun w1 => by rw [stepG_leave hn hd hf (results_tmp hr _ P w1) (events_results_tmp hr _ _), Frame.finish_at]) hT
theorem me_leave2 {t u : Tmp} (hn : b.kind = .normal) (hd : a.defers = []) (hf : P.funcs[b.fn]? = some fn) (hr : fn.results = #[.tmp t, .tmp u])
    (hT : ME P ty Post σ d r (G (b₀.at (a₀.put ((ops[i]?).bind (·.dst)) (.tuple #[a.tmps.getD t undef, a.tmps.getD u undef])) (.inRegion ops rest :: k)) cs) w) :
    ME P ty Post σ d r (G { b.at a todo with mode := .returning } (b₀.at a₀ (.inRegion ops (i :: rest) :: k) :: cs)) w :=
  me_ctl rfl (fun w1 => by rw [stepG_leave hn hd hf (results_tmp2 hr _ P w1) (events_results_tmp2 hr _ _), Frame.finish_at]) hT
/-- a store, where what stands of the group is wanted behind it -/
theorem me_stv (ho : ops[i]? = some o) (hg : Region.wanted o (yielded ops a.tmps) = true) (hk : b.kind ≠ .early) (hl : (P.funcs[b.fn]?).any (·.norace) = false) {B j : Nat} {v : Value} (hrun : ∀ w : World, Row w B j → (execOp a.eval o).run P w = .ok .skip (w.setCell ⟨B, j, none⟩ v) ∧ (execOp a.eval o).events P w #[] = #[⟨.cell ⟨B, j, none⟩, true, false⟩])
    (hrow : Row w B j) (hrd : r.rd (.cell ⟨B, j, none⟩)) (hwr : r.wr (.cell ⟨B, j, none⟩)) (hT : ∀ w1, Rely r w w1 → σ.iv ty w1 → ME P ty Post σ d r (G (b.at (a.put o.dst undef) (.inRegion ops rest :: k)) cs) (w1.setCell ⟨B, j, none⟩ v)) :
    ME P ty Post σ d r (G (b.at a (.inRegion ops (i :: rest) :: k)) cs) w := by
  refine ME.silent rfl fun w1 h1 hi => ?_
  have hw := hrow.rely h1
  exact ⟨_, _, _, by rw [stepG_none ho hg hk (hrun w1 hw).1, listed_loud hl (hrun w1 hw).2 (by simp)], guar_store hrd hwr rfl (cell_lt hw.cell.choose_spec), by rw [size_setCell, new_self]; exact hT w1 h1 hi⟩
open Go.ConcR (WgAt wgBlock)
/-- the group is made -/
theorem me_grp (ho : ops[i]? = some o) (hg : Region.wanted o (yielded ops a.tmps) = true) (hk : b.kind ≠ .early) (hl : (P.funcs[b.fn]?).any (·.norace) = false)
    (hrun : ∀ w : World, (execOp a.eval o).run P w = .ok (.value (.pointer (some ⟨w.heap.size, 0, none⟩))) (w.alloc (wgBlock ty 0 0)) ∧ (execOp a.eval o).events P w #[] = #[])
    (hT : ∀ w1, Rely r w w1 → (∀ l, r.rd l → l.low w1.heap.size) → ME P ty Post (.wg w1.heap.size [] (.idle 0)) 0 r (G (b.at (a.put o.dst (.pointer (some ⟨w1.heap.size, 0, none⟩))) (.inRegion ops rest :: k)) cs) (w1.alloc (wgBlock ty 0 0))) :
    ME P ty Post (.chs []) 0 r (G (b.at a (.inRegion ops (i :: rest) :: k)) cs) w := by
  refine ME.group rfl fun w1 h1 => ⟨G (b.at (a.put o.dst (.pointer (some ⟨w1.heap.size, 0, none⟩))) (.inRegion ops rest :: k)) cs, w1.alloc (wgBlock ty 0 0), #[], ?_, ⟨⟨rfl, rfl, rfl, by simp, fun b hb => .inl (.inl (Below.heap_alloc w1 _ b hb))⟩, by simp⟩, by simp, by simp, ?_, fun hlow => hT w1 h1 hlow⟩
  · rw [stepG_value ho hg hk (hrun w1).1, listed_loud hl (hrun w1).2 (by simp)]
  · show (w1.heap.push (wgBlock ty 0 0))[w1.heap.size]? = some (wgBlock ty 0 0)
    simp
end
end Cr
end

section
namespace Cr
open Go Go.Conc Co Go.RowKit Go.Conc.Lib Go.ConcR.Gen Go.ConcN.Gen
open Go.ConcN (WgLive)
section
variable {P : Program} {L : WgLink} {Post : Value → World → Prop} {Wg : Nat} {js : List Jb} {r : Rts} {b : Frame} {a : _root_.Go.Act} {k : List Item} {cs : List Frame} {w : World} {ops : Array Oper} {i : Nat} {rest : List Nat} {o : Oper}
theorem me_callAdd (H : WgLib P L) {n : Nat} {x : Operand} {ats : Array TypeId} (ho : ops[i]? = some o) (hw : Region.wanted o (yielded ops a.tmps) = true) (hk : b.kind ≠ .early) (hop : o.op = .call { callee := .value (.func L.add), args := #[x, .const (.int .i64 1)], argTypes := ats }) (hx : a.eval x = .pointer (some ⟨Wg, 0, none⟩))
    (hl : js.length < 1000) (hn : ∀ off, ¬ r.rd (.cell ⟨Wg, off, none⟩)) (hW : WgLive L.tWg Wg w)
    (hT : ME P L.tWg Post (.wg Wg js .pend) 0 r (G (b.at (a.put o.dst (.tuple #[])) (.inRegion ops rest :: k)) cs) w) : ME P L.tWg Post (.wg Wg js (.idle n)) 0 r (G (b.at a (.inRegion ops (i :: rest) :: k)) cs) w := by
  refine me_call (c := body_add L) ho hw hk hop H.f_add (nm_add L) rfl ?_
  have e : (#[x, .const (.int .i64 1)] : Array Operand).map a.eval = #[.pointer (some ⟨Wg, 0, none⟩), .int .i64 1] := by
    simp only [List.map_toArray, List.map_cons, List.map_nil, hx]; rfl
  rw [e]
  refine me_add H hl hn ?_ hW
  rw [ho]
  exact hT
theorem me_callWait (H : WgLib P L) {n : Nat} {x : Operand} {ats : Array TypeId} (ho : ops[i]? = some o) (hw : Region.wanted o (yielded ops a.tmps) = true) (hk : b.kind ≠ .early) (hop : o.op = .call { callee := .value (.func L.wait), args := #[x], argTypes := ats }) (hx : a.eval x = .pointer (some ⟨Wg, 0, none⟩))
    (hn : ∀ off, ¬ r.rd (.cell ⟨Wg, off, none⟩)) (hW : WgLive L.tWg Wg w)
    (hT : ∀ w1, Rely r w w1 → ∀ qs, AllJ js qs w1 → ME P L.tWg Post (.chs []) 0 (r.full qs) (G (b.at (a.put o.dst (.tuple #[])) (.inRegion ops rest :: k)) cs) w1) : ME P L.tWg Post (.wg Wg js (.idle n)) 0 r (G (b.at a (.inRegion ops (i :: rest) :: k)) cs) w := by
  refine me_call (c := body_wait L) ho hw hk hop H.f_wait (nm_wait L) rfl ?_
  have e : (#[x] : Array Operand).map a.eval = #[.pointer (some ⟨Wg, 0, none⟩)] := by
    simp [hx]
  rw [e]
  refine me_wait H hn (fun w1 h1 qs hq => ?_) hW
  rw [ho]
  exact hT w1 h1 qs hq
end
end Cr
end

section
set_option linter.unusedVariables false
set_option linter.unusedSimpArgs false
set_option linter.unusedVariables false
set_option linter.unusedSimpArgs false
namespace Go.Proofs.YtienepcknafddaaDoor
open Go Go.RowKit Go.Conc Co Cr SimPlain HeapPlain SymPlain
open Go.ConcM

section
variable {Post : Value → World → Prop} {r : Rts} {w : World} {n0 : Nat} {W0 : Past} {C h : Nat} {Ws : List (List Ev)}
set_option maxRecDepth 100000 in
set_option maxHeartbeats 8000000 in
theorem gather_all {cs : List Frame} (hold : Hold n0 W0 r w) (rC : RdB r C) (glC : Tryd.prog.globals.size ≤ C) (len : Ws.length = h) (h6 : h ≤ 6) (h0 : 1 ≤ h) (part : ∀ i W, Ws[i]? = some W → PartAt r w C i W) (pl : Pl Ws)
    (cont : ∀ (t : Array Value) (todo : List Item) (r : Rts) (w : World) (g : Option Addr) (c : Nat) (L : List Ev), Hold n0 W0 r w → PA r w g c L → L.Perm Ws.flatten → L.Pairwise SimPlain.Lt → t.size = 47 → t[2]? = some (.slice g L.length c) → ME Tryd.prog wgL.tWg Post (.chs []) 0 r (G { (base 17).at ⟨t, []⟩ todo with mode := .returning } cs) w) :
    ME Tryd.prog wgL.tWg Post (.chs []) 0 r (G ((base 17).at ⟨#[.slice (some ⟨C, 0, none⟩) h h, undef, undef, undef, undef, undef, undef, undef, undef, undef, undef, undef, undef, undef, undef, undef, undef, undef, undef, undef, undef, undef, undef, undef, undef, undef, undef, undef, undef, undef, undef, undef, undef, undef, undef, undef, undef, undef, undef, undef, undef, undef, undef, undef, undef, undef, undef], []⟩ [.code body13]) cs) w := by
  rw [body13_eq]
  simp only [rg0, Tryd.f17]
  obtain ⟨_, _, hp0, _⟩ := part 0 (Ws[0]'(by omega)) (List.getElem?_eq_getElem _)
  have hC := cell_lt hp0
  have hF : KW r ((Sg.chs []).iv wgL.tWg) w w := ⟨Rely.refl _ _, trivial⟩
  refine me_run (m := 2) rfl trivial ?_
  w_go kw_rely
  w_go kw_rely
  refine Goes.stop (fun w₁ h₁ => ?_)
  replace hF := kw_rely hF h₁
  clear h₁
  refine me_al (f := fun x => .pointer (some ⟨x, 0, none⟩)) rfl rfl (by decide) loud13 (box35 (g := some ⟨C, 0, none⟩) (n := h) (c := h) rfl rfl) fun wa ha _ => ?_
  walk_nrm
  have hr := rely_alloc (hF.1.trans ha) (.cells #[.slice (some ⟨C, 0, none⟩) h h] 37 (0, 0))
  have hCa : C < wa.heap.size := Nat.lt_of_lt_of_le hC (hF.1.trans ha).size
  have hcell : (wa.alloc (.cells #[.slice (some ⟨C, 0, none⟩) h h] 37 (0, 0))).cell? ⟨wa.heap.size, 0, none⟩ = some (.slice (some ⟨C, 0, none⟩) h h) := by unfold World.cell?; simp only [alloc_here]; rfl
  have FG : GaF n0 W0 (r.new wa.heap.size (wa.heap.size + 1)) (wa.alloc (.cells #[.slice (some ⟨C, 0, none⟩) h h] 37 (0, 0))) wa.heap.size C h h Ws :=
    ⟨Hold.new (hold.rely hr) _ _, hcell, ⟨new_rd_obj, fun a ha => new_rd_cell ha⟩, ⟨_, _, _, alloc_here _ _, by simp, by simp⟩, rC.mono fun _ => .inl, Nat.le_trans glC (Nat.le_of_lt hCa), glC, Nat.le_trans hold.le (hF.1.trans ha).size, len, h6, h0, (fun i W e => let ⟨g, c, x, y⟩ := (part i W e).rely rC hr; ⟨g, c, x, y.mono fun _ => .inl⟩), pl⟩
  generalize wa.alloc (.cells #[.slice (some ⟨C, 0, none⟩) h h] 37 (0, 0)) = w2 at FG
  generalize r.new wa.heap.size (wa.heap.size + 1) = r2 at FG
  generalize wa.heap.size = T1 at FG
  clear hF ha hr hCa hcell hold rC part hp0 hC
  have hF : KW r2 ((Sg.chs []).iv wgL.tWg) w2 w2 := ⟨Rely.refl _ _, trivial⟩
  refine me_run (m := 8) rfl trivial ?_
  repeat w_go kw_rely
  refine Goes.stop (fun w₁ h₁ => ?_)
  replace hF := kw_rely hF h₁
  exact gather_rounds cont h h _ r2 _ C h Ws (Nat.le_refl _) (FG.rely hF.1) (List.Perm.refl _) rfl rfl
end
end Go.Proofs.YtienepcknafddaaDoor
end

section
set_option linter.unusedVariables false
set_option linter.unusedSimpArgs false
set_option linter.unusedVariables false
set_option linter.unusedSimpArgs false
namespace Go.Proofs.YtienepcknafddaaDoor
open Go Go.RowKit Go.Conc Co Cr SimPlain HeapPlain SymPlain
open Go.ConcM

noncomputable def qSa : Code := match Tryd.f6.body with | some (.seq c _) => c | _ => .skip
noncomputable def qSb : Code := match Tryd.f6.body with | some (.seq _ (.seq c _)) => c | _ => .skip
noncomputable def qSc : Code := match Tryd.f6.body with | some (.seq _ (.seq _ (.seq c _))) => c | _ => .skip
noncomputable def qSd : Code := match Tryd.f6.body with | some (.seq _ (.seq _ (.seq _ c))) => c | _ => .skip
noncomputable def qSL : Code := match qSd with | .seq _ (.seq _ (.seq (.seq _ (.block _ (.loop c))) _)) => c | _ => .skip
noncomputable def qS1 : Code := match qSL with | .seq _ (.seq _ (.seq (.block _ c) _)) => c | _ => .skip
noncomputable def rs0 : Array Oper := match qSa with | .region _ o _ => o | _ => #[]
noncomputable def rs1 : Array Oper := match qSb with | .seq (.region _ o _) _ => o | _ => #[]
noncomputable def rs2 : Array Oper := match qSb with | .seq _ (.seq (.region _ o _) _) => o | _ => #[]
noncomputable def rs3 : Array Oper := match qSb with | .seq _ (.seq _ (.cond _ (.seq (.region _ o _) _) _)) => o | _ => #[]
noncomputable def rs4 : Array Oper := match qSc with | .seq (.region _ o _) _ => o | _ => #[]
noncomputable def rs5 : Array Oper := match qSc with | .seq _ (.cond _ (.seq (.region _ o _) _) _) => o | _ => #[]
noncomputable def rs6 : Array Oper := match qSd with | .seq (.region _ o _) _ => o | _ => #[]
noncomputable def rs7 : Array Oper := match qSd with | .seq _ (.seq (.region _ o _) _) => o | _ => #[]
noncomputable def rs8 : Array Oper := match qSd with | .seq _ (.seq _ (.seq (.seq (.region _ o _) _) _)) => o | _ => #[]
noncomputable def rs9 : Array Oper := match qSL with | .seq (.region _ o _) _ => o | _ => #[]
noncomputable def rs10 : Array Oper := match qS1 with | .seq (.region _ o _) _ => o | _ => #[]
noncomputable def rs11 : Array Oper := match qS1 with | .seq _ (.seq (.region _ o _) _) => o | _ => #[]
noncomputable def rs12 : Array Oper := match qS1 with | .seq _ (.seq _ (.region _ o _)) => o | _ => #[]
noncomputable def rs13 : Array Oper := match qSL with | .seq _ (.seq _ (.seq _ (.region _ o _))) => o | _ => #[]
noncomputable def rs14 : Array Oper := match qSd with | .seq _ (.seq _ (.seq _ (.seq (.region _ o _) _))) => o | _ => #[]
noncomputable def rs15 : Array Oper := match qSd with | .seq _ (.seq _ (.seq _ (.seq _ (.seq (.region _ o _) _)))) => o | _ => #[]
noncomputable def LS : Code := qSL
noncomputable def body4 : Code := Tryd.f6.body.getD .skip
noncomputable def body4b : Code := .seq (.seq (.region 4 rs4 false) (.cond (.tmp 17) (.seq (.region 5 rs5 false) .ret) .skip)) (.seq (.region 6 rs6 false) (.seq (.region 7 rs7 false) (.seq (.seq (.region 8 rs8 false) (.block 0 (.loop LS))) (.seq (.region 14 rs14 false) (.seq (.region 15 rs15 false) .ret)))))
theorem body4_eq : body4 = .seq (.region 0 rs0 false) (.seq (.seq (.region 1 rs1 false) (.seq (.region 2 rs2 false) (.cond (.tmp 13) (.seq (.region 3 rs3 false) .ret) .skip))) body4b) := by kernel_rfl
theorem LS_eq : LS = .seq (.region 9 rs9 false) (.seq (.cond (.tmp 23) .skip (.exit 0)) (.seq (.block 1 (.seq (.region 10 rs10 false) (.seq (.region 11 rs11 false) (.region 12 rs12 false)))) (.region 13 rs13 false))) := by kernel_rfl
theorem loud4 : (Tryd.prog.funcs[6]?).any (·.norace) = false := by kernel_rfl
theorem names4 : (Tryd.f6.name == "runtime.NumGoroutine") = false := by kernel_rfl
set_option maxRecDepth 100000 in
set_option maxHeartbeats 4000000 in
theorem check_wp (l : List Ev) (A : Option Addr) (cap L : Nat) (X0 X1 X3 X4 X5 : Value) (w : World) (hL : w.cell? ⟨L, 0, none⟩ = some (.slice A l.length cap)) (hx : EvA w A l) (hlen : l.length ≤ 9223372036854775807) :
    (Code.region 1 rs1 false).wp Tryd.prog (fun e a w' => e = .normal ∧ a.defers = [] ∧ a.tmps.size = 31 ∧ a.tmps[2]? = some (.pointer (some ⟨L, 0, none⟩)) ∧ a.tmps[3]? = some X3 ∧ a.tmps[6]? = some (errV 36 (chkI l)))
      ⟨#[X0, X1, .pointer (some ⟨L, 0, none⟩), X3, X4, X5, undef, undef, undef, undef, undef, undef, undef, undef, undef, undef, undef, undef, undef, undef, undef, undef, undef, undef, undef, undef, undef, undef, undef, undef, undef], []⟩ w := by
  simp only [rs1, qSb, Tryd.f6]
  go_wp2_with fail
  refine (CheckI_any l A cap w hx (by omega)).mono ?_
  rintro e w2 ⟨rfl, hb⟩
  go_wp2
end Go.Proofs.YtienepcknafddaaDoor
end

section
set_option linter.unusedVariables false
set_option linter.unusedSimpArgs false
set_option linter.unusedVariables false
set_option linter.unusedSimpArgs false
namespace Go.Proofs.YtienepcknafddaaDoor
open Go Go.RowKit Go.Conc Co Cr SimPlain HeapPlain SymPlain
open Go.ConcM

theorem errTy : Tryd.prog.underlying 26 = some (.interface (Tryd.prog.methodsAt 26)) := by kernel_rfl
theorem ev_neq_nil (w : World) (es : Array Event) : (binOp .neq 26 .nilIface .nilIface).events Tryd.prog w es = es := by
  have h : ∀ d, (Op.equalIn (d + 1) 26 .nilIface .nilIface).events Tryd.prog w es = es := fun d => by simp [Op.equalIn, run_underlying errTy]
  have h' : (Op.equal 26 .nilIface .nilIface).events Tryd.prog w es = es := h 9999
  simp only [binOp]
  simp [h', run_equal_nil_nil w 26 errTy]
theorem ev_neq_held (w : World) (es : Array Event) (u : TypeId) (x : Value) : (binOp .neq 26 (.iface u x) .nilIface).events Tryd.prog w es = es := by
  have h : ∀ d, (Op.equalIn (d + 1) 26 (.iface u x) .nilIface).events Tryd.prog w es = es := fun d => by simp [Op.equalIn, run_underlying errTy]
  have h' : (Op.equal 26 (.iface u x) .nilIface).events Tryd.prog w es = es := h 9999
  simp only [binOp]
  simp [h', run_equal_held_nil w 26 u x errTy]
/-- the items that are handed in -/
structure CqF (n0 : Nat) (W0 : Past) (r : Rts) (w : World) (A : Option Addr) (b off cap : Nat) (l : List Ev) : Prop where
  hold : Hold n0 W0 r w
  hA : A = some ⟨b, off, none⟩ ∨ (A = none ∧ l = [] ∧ cap = 0)
  hE : EvA w A l
  rb : A = some ⟨b, off, none⟩ → RdB r b ∧ CellsAt w b ∧ Tryd.prog.globals.size ≤ b
  hlc : l.length ≤ cap
  big : l.length ≤ 9223372036854775807
  gw : Tryd.prog.globals.size ≤ w.heap.size
/-- .. and behind the two boxes -/
structure CrF (n0 : Nat) (W0 : Past) (r : Rts) (w : World) (A : Option Addr) (b off cap : Nat) (l : List Ev) (L H : Nat) (z : Int) : Prop where
  q : CqF n0 W0 r w A b off cap l
  hL : w.cell? ⟨L, 0, none⟩ = some (.slice A l.length cap)
  hH : w.cell? ⟨H, 0, none⟩ = some (.int .i64 z)
  rL : RdB r L
  rH : RdB r H
  gL : Tryd.prog.globals.size ≤ L
  gH : Tryd.prog.globals.size ≤ H
section
variable {Post : Value → World → Prop} {r r' : Rts} {w w' : World} {n0 : Nat} {W0 : Past} {A : Option Addr} {b off cap L H : Nat} {l : List Ev} {z : Int}
theorem EvA.relyR (h : EvA w A l) (hr : l ≠ [] → ∀ b off, A = some ⟨b, off, none⟩ → ∀ a : Addr, a.block = b → r.rd (.cell a)) (q : Rely r w w') : EvA w' A l := by
  rcases h with h | ⟨b, o, e, h1, h2⟩
  · exact .inl h
  · by_cases hl : l = []
    · exact .inl hl
    · exact .inr ⟨b, o, e, Nat.lt_of_lt_of_le h1 q.size, fun i hi => ⟨q.cell (h2 i hi).1 (hr hl b o e _ rfl), q.cell (h2 i hi).2 (hr hl b o e _ rfl)⟩⟩
theorem CqF.rd (h : CqF n0 W0 r w A b off cap l) : l ≠ [] → ∀ b' off', A = some ⟨b', off', none⟩ → ∀ a : Addr, a.block = b' → r.rd (.cell a) := fun hl b' off' e a ha => by
  rcases h.hA with e' | ⟨_, e', _⟩
  · rw [e] at e'
    simp only [Option.some.injEq, Addr.mk.injEq, and_true] at e'
    obtain ⟨rfl, rfl⟩ := e'
    exact (h.rb e).1.2 a ha
  · exact absurd e' hl
theorem Hold.mono (h : Hold n0 W0 r w) (e : ∀ l, r.rd l → r'.rd l) (s : ∀ l, r'.wr l → r'.rd l) : Hold n0 W0 r' w := ⟨s, fun a ha => e _ (h.old a ha), fun b hb => e _ (h.oldo b hb), h.keep, h.le, h.lt⟩
theorem evA_ghost {D : Nat → Prop} {T : Tape} (h : CqF n0 W0 r w A b off cap l) : EvA (on (gh cwL Tryd.prog w D (fun b => ¬ RdB r b) (fun _ => False)) T 0) A l := by
  rcases h.hE with e | ⟨b', o', e, h1, h2⟩
  · exact .inl e
  · rcases h.hA with e' | ⟨e', _⟩
    · have hb := h.rb e'
      rw [e] at e'
      simp only [Option.some.injEq, Addr.mk.injEq, and_true] at e'
      obtain ⟨rfl, rfl⟩ := e'
      have hs : ¬ ¬ RdB r b' := fun c => c hb.1
      exact .inr ⟨b', o', e, by rw [show (on (gh cwL Tryd.prog w D (fun b => ¬ RdB r b) (fun _ => False)) T 0).heap.size = w.heap.size from gw_size]; exact h1, fun i hi => ⟨gw_cell (h2 i hi).1 hs (.int _ _), gw_cell (h2 i hi).2 hs (.int _ _)⟩⟩
    · rw [e] at e'; cases e'
theorem sliceA_vr {D S M : Nat → Prop} {nn : Nat} (h : CqF n0 W0 r w A b off cap l) (hD : A = some ⟨b, off, none⟩ → D b) : VR (· ∈ cwL) (gr Tryd.prog w D S M) (.slice A nn cap) (.slice A nn cap) := by
  rcases h.hA with e | ⟨e, _⟩
  · have := h.rb e
    rw [e]; exact .sl _ _ ⟨⟨hD e, this.2.2, this.2.1⟩, rfl⟩
  · rw [e]; exact .slNil _ _
theorem CqF.rely (h : CqF n0 W0 r w A b off cap l) (q : Rely r w w') : CqF n0 W0 r w' A b off cap l :=
  { h with hold := h.hold.rely q, hE := h.hE.relyR h.rd q, gw := Nat.le_trans h.gw q.size, rb := (fun e => ⟨(h.rb e).1, (h.rb e).2.1.turn q, (h.rb e).2.2⟩) }
theorem CqF.mono (h : CqF n0 W0 r w A b off cap l) (hH : Hold n0 W0 r' w) (e : ∀ l, r.rd l → r'.rd l) : CqF n0 W0 r' w A b off cap l :=
  { h with hold := hH, rb := (fun x => ⟨(h.rb x).1.mono e, (h.rb x).2⟩) }
theorem CrF.rely (h : CrF n0 W0 r w A b off cap l L H z) (q : Rely r w w') : CrF n0 W0 r w' A b off cap l L H z :=
  { h with q := h.q.rely q, hL := q.cell h.hL (h.rL.2 _ rfl), hH := q.cell h.hH (h.rH.2 _ rfl) }
theorem CrF.mono (h : CrF n0 W0 r w A b off cap l L H z) (hH : Hold n0 W0 r' w) (e : ∀ l, r.rd l → r'.rd l) : CrF n0 W0 r' w A b off cap l L H z :=
  { h with q := h.q.mono hH e, rL := h.rL.mono e, rH := h.rH.mono e }
theorem VR.errV_eq {ok : FuncId → Prop} {ρ : Ren} {T : TypeId} {n : Int} {v : Value} (h : VR ok ρ (errV T n) v) : v = errV T n := by
  unfold errV at h ⊢
  split at h
  · next e => rw [if_pos e]; cases h; rfl
  · next e =>
    rw [if_neg e]
    cases h with
    | iface _ h => rw [VR.int_eq h]
def RelK (L H : Nat) (n : Int) (t : Array Value) (w : World) : Prop := t.size = 31 ∧ t[2]? = some (.pointer (some ⟨L, 0, none⟩)) ∧ t[3]? = some (.pointer (some ⟨H, 0, none⟩)) ∧ t[6]? = some (errV 36 n)
theorem relK_carried {ρ0 : Ren} {n : Int} (h3 : ρ0.dom L) (h3' : ρ0.to L = L) (h4 : ρ0.dom H) (h4' : ρ0.to H = H) : Carried cwL Tryd.prog ρ0 (RelK L H n) := by
  rintro ρ t t' w w' hx _ ht hw ⟨hs, e2, e3, e6⟩
  obtain ⟨v2, f2, r2⟩ := ht.get e2
  obtain ⟨v3, f3, r3⟩ := ht.get e3
  obtain ⟨v6, f6, r6⟩ := ht.get e6
  rw [VR.ptr_eq hx h3 h3' r2] at f2
  rw [VR.ptr_eq hx h4 h4' r3] at f3
  rw [VR.errV_eq r6] at f6
  exact ⟨by rw [← ht.1]; exact hs, f2, f3, f6⟩
set_option maxRecDepth 100000 in
set_option maxHeartbeats 8000000 in
theorem sort_head {cs : List Frame} (F : CqF n0 W0 r w A b off cap l)
    (bad : ∀ (t : Array Value) (todo : List Item) (r : Rts) (w : World), chkI l ≠ 0 → CqF n0 W0 r w A b off cap l → t.size = 31 → t[4]? = some (.slice none 0 0) → t[5]? = some (errV 36 (chkI l)) → ME Tryd.prog wgL.tWg Post (.chs []) 0 r (G { (base 6).at ⟨t, []⟩ todo with mode := .returning } cs) w)
    (ok : ∀ (t : Array Value) (r : Rts) (w : World) (L H : Nat), chkI l = 0 → CrF n0 W0 r w A b off cap l L H z → t.size = 31 → t[2]? = some (.pointer (some ⟨L, 0, none⟩)) → t[3]? = some (.pointer (some ⟨H, 0, none⟩)) → ME Tryd.prog wgL.tWg Post (.chs []) 0 r (G ((base 6).at ⟨t, []⟩ [.code body4b]) cs) w) :
    ME Tryd.prog wgL.tWg Post (.chs []) 0 r (G ((base 6).at ⟨#[.slice A l.length cap, .int .i64 z, undef, undef, undef, undef, undef, undef, undef, undef, undef, undef, undef, undef, undef, undef, undef, undef, undef, undef, undef, undef, undef, undef, undef, undef, undef, undef, undef, undef, undef], []⟩ [.code body4]) cs) w := by
  rw [body4_eq]
  simp only [rs0, qSa, Tryd.f6]
  have hF : KW r ((Sg.chs []).iv wgL.tWg) w w := ⟨Rely.refl _ _, trivial⟩
  refine me_run (m := 2) rfl trivial ?_
  w_go kw_rely
  w_go kw_rely
  refine Goes.stop (fun w₁ h₁ => ?_)
  replace hF := kw_rely hF h₁
  replace F := F.rely hF.1
  clear h₁ hF
  refine me_al (f := fun x => .pointer (some ⟨x, 0, none⟩)) rfl rfl (by decide) loud4 (box22 (g := A) (n := l.length) (c := cap) rfl rfl) fun wa ha _ => ?_
  walk_nrm
  refine me_al (f := fun x => .pointer (some ⟨x, 0, none⟩)) rfl rfl (by decide) loud4 (box3 (k := .i64) (n := z) rfl rfl) fun wc hc _ => ?_
  walk_nrm
  have hcellL : (wa.alloc (.cells #[.slice A l.length cap] 22 (0, 0))).cell? ⟨wa.heap.size, 0, none⟩ = some (.slice A l.length cap) := by unfold World.cell?; simp only [alloc_here]; rfl
  have hcellH : (wc.alloc (.cells #[.int .i64 z] 3 (0, 0))).cell? ⟨wc.heap.size, 0, none⟩ = some (.int .i64 z) := by unfold World.cell?; simp only [alloc_here]; rfl
  have hr : Rely r w₁ (wc.alloc (.cells #[.int .i64 z] 3 (0, 0))) := rely_alloc ((rely_alloc ha _).trans (rely_of_new hc)) _
  have FR : CrF n0 W0 ((r.new wa.heap.size (wa.heap.size + 1)).new wc.heap.size (wc.heap.size + 1)) (wc.alloc (.cells #[.int .i64 z] 3 (0, 0))) A b off cap l wa.heap.size wc.heap.size z :=
    ⟨(F.rely hr).mono (Hold.new (Hold.new (F.rely hr).hold _ _) _ _) fun _ h => .inl (.inl h), cell_alloc (hc.cell hcellL (new_rd_cell rfl)) _, hcellH, ⟨.inl new_rd_obj, fun a ha => .inl (new_rd_cell ha)⟩, ⟨new_rd_obj, fun a ha => new_rd_cell ha⟩, Nat.le_trans F.gw ha.size, Nat.le_trans F.gw (Nat.le_trans ha.size (Nat.le_trans (by simp) hc.size))⟩
  generalize wc.alloc (.cells #[.int .i64 z] 3 (0, 0)) = w2 at FR
  generalize (r.new wa.heap.size (wa.heap.size + 1)).new wc.heap.size (wc.heap.size + 1) = r2 at FR
  generalize wa.heap.size = L at FR
  generalize wc.heap.size = H at FR
  clear F ha hc hcellL hcellH hr
  have hF : KW r2 ((Sg.chs []).iv wgL.tWg) w2 w2 := ⟨Rely.refl _ _, trivial⟩
  refine me_run (m := 5) rfl trivial ?_
  w_go kw_rely
  w_go kw_rely
  w_go kw_rely
  w_go kw_rely
  w_go kw_rely
  refine Goes.stop (fun w₁ h₁ => ?_)
  replace hF := kw_rely hF h₁
  replace FR := FR.rely hF.1
  clear h₁ hF
  let D : Nat → Prop := fun x => x = L ∨ x = H ∨ A = some ⟨x, off, none⟩
  let S : Nat → Prop := fun b => ¬ RdB r2 b
  let Mm : Nat → Prop := fun _ => False
  have dL : (gr Tryd.prog w₁ D S Mm).dom L := ⟨.inl rfl, FR.gL, cell_block FR.hL⟩
  have dH : (gr Tryd.prog w₁ D S Mm).dom H := ⟨.inr (.inl rfl), FR.gH, cell_block FR.hH⟩
  have ns : ∀ {b : Nat}, RdB r2 b → ¬ S b := fun h c => c h
  refine me_str (f := 6) cw_funs ⟨_, rfl⟩ (by decide) (by kernel_rfl) FR.q.gw D S Mm cov_S (RelK L H (chkI l)) (relK_carried dL rfl dH rfl) cs (fun T => ?_) fun t' ρ r' W' hR hext hway _ => ?_
  · have hvL : VR (· ∈ cwL) (gr Tryd.prog w₁ D S Mm) (.pointer (some ⟨L, 0, none⟩)) (.pointer (some ⟨L, 0, none⟩)) := .ptr ⟨dL, rfl⟩
    have hvH : VR (· ∈ cwL) (gr Tryd.prog w₁ D S Mm) (.pointer (some ⟨H, 0, none⟩)) (.pointer (some ⟨H, 0, none⟩)) := .ptr ⟨dH, rfl⟩
    have hvU : VR (· ∈ cwL) (gr Tryd.prog w₁ D S Mm) undef undef := undef_vr
    simp only [mrow, List.map_toArray, List.map_cons, List.map_nil, mask_eq hvL, mask_eq hvH, mask_eq hvU]
    exact check_wp l A cap L _ _ _ _ _ _ (gw_cell FR.hL (ns FR.rL) (sliceA_vr FR.q fun e => .inr (.inr e))) (evA_ghost FR.q) FR.q.big
  · change ME Tryd.prog wgL.tWg Post (.chs []) 0 r' (G ((base 6).at ⟨t', []⟩ (.code (.seq (.region 2 rs2 false) (.cond (.tmp 13) (.seq (.region 3 rs3 false) .ret) .skip)) :: [.code body4b])) cs) W'
    have hrl : Rely r2 w₁ W' := hway.rely fun b i hb hm => hm.1
    have FR' := (FR.rely hrl).mono (Hold.mono (FR.rely hrl).q.hold hway.rd (hway.sub FR.q.hold.sub)) hway.rd
    obtain ⟨hs, h2, h3, h6⟩ := hR
    clear hway hrl FR hext dL dH ns
    obtain ⟨x0, x1, x2, x3, x4, x5, x6, x7, x8, x9, x10, x11, x12, x13, x14, x15, x16, x17, x18, x19, x20, x21, x22, x23, x24, x25, x26, x27, x28, x29, x30, rfl⟩ := arr31 hs
    obtain rfl : x2 = _ := by simpa using h2
    obtain rfl : x3 = _ := by simpa using h3
    obtain rfl : x6 = _ := by simpa using h6
    clear hs h2 h3 h6
    have hF : KW r' ((Sg.chs []).iv wgL.tWg) W' W' := ⟨Rely.refl _ _, trivial⟩
    simp only [rs2, rs3, qSb, Tryd.f6]
    by_cases hk : chkI l = 0
    · have e0 : errV 36 (chkI l) = .nilIface := by rw [hk]; rfl
      rw [e0]
      have hev := ev_neq_nil
      refine me_run (m := 7) rfl trivial ?_
      w_go kw_rely
      w_go kw_rely
      w_go kw_rely
      w_go kw_rely
      w_go kw_rely
      w_go kw_rely
      w_go kw_rely
      refine Goes.stop (fun w₁ h₁ => ?_)
      replace hF := kw_rely hF h₁
      exact ok _ r' _ L H hk (FR'.rely hF.1) rfl rfl rfl
    · have e0 : errV 36 (chkI l) = .iface 36 (.int .i64 (chkI l)) := errV_bad hk
      have hbad := fun t todo r w => bad t todo r w hk
      rw [e0] at hbad ⊢
      have hev := ev_neq_held
      refine me_run (m := 13) rfl trivial ?_
      w_go kw_rely
      w_go kw_rely
      w_go kw_rely
      w_go kw_rely
      w_go kw_rely
      w_go kw_rely
      w_go kw_rely
      w_go kw_rely
      w_go kw_rely
      w_go kw_rely
      w_go kw_rely
      w_go kw_rely
      w_go kw_rely
      refine Goes.stop (fun w₁ h₁ => ?_)
      replace hF := kw_rely hF h₁
      refine hbad _ _ r' _ (FR'.q.rely hF.1) ?_ ?_ ?_ <;> rfl
end
end Go.Proofs.YtienepcknafddaaDoor
end

section
set_option linter.unusedVariables false
set_option linter.unusedSimpArgs false
set_option linter.unusedVariables false
set_option linter.unusedSimpArgs false
namespace Go.Proofs.YtienepcknafddaaDoor
open Go Go.RowKit Go.Conc Co Cr SimPlain HeapPlain SymPlain
open Go.ConcM

theorem stepB4 {m : Bool} {b : Frame} {a : _root_.Go.Act} {k : List Item} {cs : List Frame} {w : World} : stepG Tryd.prog m (G (b.at a (.code body4b :: k)) cs) w = .go (G (b.at a (.code (.seq (.region 4 rs4 false) (.cond (.tmp 17) (.seq (.region 5 rs5 false) .ret) .skip)) :: .code (.seq (.region 6 rs6 false) (.seq (.region 7 rs7 false) (.seq (.seq (.region 8 rs8 false) (.block 0 (.loop LS))) (.seq (.region 14 rs14 false) (.seq (.region 15 rs15 false) .ret))))) :: k)) cs) w #[] := by
  unfold body4b; exact stepG_seq
/-- while the workers are started -/
structure CsF (n0 : Nat) (W0 : Past) (r : Rts) (w : World) (A : Option Addr) (b off cap : Nat) (l : List Ev) (L H Q C Wg h k : Nat) : Prop where
  cr : CrF n0 W0 r w A b off cap l L H h
  hQ : w.cell? ⟨Q, 0, none⟩ = some (.slice (some ⟨C, 0, none⟩) h h)
  rQ : RdB r Q
  gQ : Tryd.prog.globals.size ≤ Q
  gC : Tryd.prog.globals.size ≤ C
  nC : n0 ≤ C
  roC : r.rd (.obj C)
  rC : ∀ a : Addr, a.block = C → k ≤ a.off → r.rd (.cell a) ∧ r.wr (.cell a)
  row : ∀ j, j < h → Cr.Row w C j
  nL : C ≠ L
  nH : C ≠ H
  nQ : C ≠ Q
  nb : A = some ⟨b, off, none⟩ → C ≠ b
  wg : ∀ o, ¬ r.rd (.cell ⟨Wg, o, none⟩)
  h1 : 1 ≤ h
  h6 : h ≤ 6
  km : k ≤ h
  ok : chkI l = 0
  bef : l.Pairwise Bef
structure S31 (t : Array Value) (L H Q Wg : Nat) : Prop where
  size : t.size = 31
  t2 : t[2]? = some (.pointer (some ⟨L, 0, none⟩))
  t3 : t[3]? = some (.pointer (some ⟨H, 0, none⟩))
  t7 : t[7]? = some (.pointer (some ⟨Q, 0, none⟩))
  t8 : t[8]? = some (.pointer (some ⟨Wg, 0, none⟩))
section
variable {Post : Value → World → Prop} {r r' : Rts} {w w' : World} {n0 : Nat} {W0 : Past} {A : Option Addr} {b off cap L H Q C Wg h k : Nat} {l : List Ev} {z : Int}
theorem CsF.rely (f : CsF n0 W0 r w A b off cap l L H Q C Wg h k) (q : Rely r w w') : CsF n0 W0 r w' A b off cap l L H Q C Wg h k :=
  { f with cr := f.cr.rely q, hQ := q.cell f.hQ (f.rQ.2 _ rfl), row := (fun j hj => (f.row j hj).rely q) }
set_option maxRecDepth 100000 in
set_option maxHeartbeats 8000000 in
theorem sort_make {cs : List Frame} {t : Array Value} (F : CrF n0 W0 r w A b off cap l L H h) (h1 : 1 ≤ h) (h6 : h ≤ 6) (hok : chkI l = 0) (hbef : l.Pairwise Bef) (hs : t.size = 31) (h2 : t[2]? = some (.pointer (some ⟨L, 0, none⟩))) (h3 : t[3]? = some (.pointer (some ⟨H, 0, none⟩)))
    (cont : ∀ (t : Array Value) (r : Rts) (w : World) (Q C Wg : Nat), CsF n0 W0 r w A b off cap l L H Q C Wg h 0 → Go.ConcN.WgLive wgL.tWg Wg w → S31 t L H Q Wg →
      ME Tryd.prog wgL.tWg Post (.wg Wg [] (.idle 0)) 0 r (G ((base 6).at ⟨t, []⟩ (.inRegion rs7 [] :: [.code (.seq (.seq (.region 8 rs8 false) (.block 0 (.loop LS))) (.seq (.region 14 rs14 false) (.seq (.region 15 rs15 false) .ret)))])) cs) w) :
    ME Tryd.prog wgL.tWg Post (.chs []) 0 r (G ((base 6).at ⟨t, []⟩ [.code body4b]) cs) w := by
  obtain ⟨x0, x1, x2, x3, x4, x5, x6, x7, x8, x9, x10, x11, x12, x13, x14, x15, x16, x17, x18, x19, x20, x21, x22, x23, x24, x25, x26, x27, x28, x29, x30, rfl⟩ := arr31 hs
  obtain rfl : x2 = _ := by simpa using h2
  obtain rfl : x3 = _ := by simpa using h3
  clear hs h2 h3
  refine me_ctl rfl (fun _ => stepB4) ?_
  simp only [rs4, rs6, qSc, qSd, Tryd.f6]
  have hF : KW r ((Sg.chs []).iv wgL.tWg) w w := ⟨Rely.refl _ _, trivial⟩
  refine me_run (m := 2) rfl trivial ?_
  w_go kw_rely
  w_go kw_rely
  refine Goes.stop (fun w₁ h₁ => ?_)
  replace hF := kw_rely hF h₁
  replace F := F.rely hF.1
  clear h₁ hF
  refine me_ld rfl rfl (by decide) loud4 rfl (ld3 rfl rfl) F.hH (F.rH.2 _ rfl) ?_
  walk_nrm
  refine me_call rfl rfl (by decide) rfl Tryd.func11 (by kernel_rfl) rfl ?_
  walk_nrmf Tryd.f11
  have z1 : (1 : Int) ≤ (h : Int) := by omega
  have z6 : (h : Int) ≤ 6 := by omega
  have hF : KW r ((Sg.chs []).iv wgL.tWg) w₁ w₁ := ⟨Rely.refl _ _, trivial⟩
  refine me_run (m := 30) rfl trivial ?_
  repeat w_go kw_rely
  refine Goes.stop (fun w₁ h₁ => ?_)
  replace hF := kw_rely hF h₁
  replace F := F.rely hF.1
  clear h₁ hF
  refine me_leave1 rfl rfl Tryd.func11 rfl ?_
  walk_nrm
  have hF : KW r ((Sg.chs []).iv wgL.tWg) w₁ w₁ := ⟨Rely.refl _ _, trivial⟩
  refine me_run (m := 30) rfl trivial ?_
  repeat w_go kw_rely
  refine Goes.stop (fun w₁ h₁ => ?_)
  replace hF := kw_rely hF h₁
  replace F := F.rely hF.1
  clear h₁ hF
  refine me_ld rfl rfl (by decide) loud4 rfl (ld3 rfl rfl) F.hH (F.rH.2 _ rfl) ?_
  walk_nrm
  refine me_al (f := fun x => .slice (some ⟨x, 0, none⟩) h h) rfl rfl (by decide) loud4 (mk35 (by omega) rfl rfl) fun wa ha _ => ?_
  walk_nrm
  refine me_al (f := fun x => .pointer (some ⟨x, 0, none⟩)) rfl rfl (by decide) loud4 (al35 rfl) fun wc hc _ => ?_
  walk_nrm
  have hrowQ : Cr.Row (wc.alloc (.cells #[.slice none 0 0] 37 (0, 0))) wc.heap.size 0 := ⟨_, _, _, alloc_here _ _, by simp, by simp⟩
  refine me_st rfl rfl (by decide) loud4 (st35 (g := some ⟨wa.heap.size, 0, none⟩) (n := h) (c := h) rfl rfl rfl) hrowQ (new_rd_cell rfl) (new_wr_cell rfl) fun we he => ?_
  walk_nrm
  have hsz : wa.heap.size < wc.heap.size := by
    have := hc.size
    simp at this; omega
  have hne : wa.heap.size ≠ wc.heap.size := by omega
  have hrowC : ∀ j, j < h → Cr.Row (wa.alloc (.cells (madeCells #[.slice none 0 0] h) 22 (0, 0))) wa.heap.size j := fun j hj => ⟨_, _, _, alloc_here _ _, by rw [made_size]; exact hj, by simp⟩
  have krow : ∀ {Y j : Nat}, Cr.Row we Y j → Y ≠ wc.heap.size → Cr.Row (we.setCell ⟨wc.heap.size, 0, none⟩ (.slice (some ⟨wa.heap.size, 0, none⟩) h h)) Y j := fun {Y j} ⟨x, t, fr, e, h1⟩ hA => ⟨x, t, fr, (Below.heap_setCell we ⟨wc.heap.size, 0, none⟩ _ Y hA).trans e, h1⟩
  have hL : L < wa.heap.size := Nat.lt_of_lt_of_le (cell_lt F.hL) ha.size
  have hH : H < wa.heap.size := Nat.lt_of_lt_of_le (cell_lt F.hH) ha.size
  have hrl : Rely r w₁ (we.setCell ⟨wc.heap.size, 0, none⟩ (.slice (some ⟨wa.heap.size, 0, none⟩) h h)) := rely_set ((rely_alloc ((rely_alloc ha _).trans (rely_of_new hc)) _).trans (rely_of_new (rely_of_new he))) (Nat.le_trans ha.size (Nat.le_of_lt hsz)) _
  have hb0 : A = some ⟨b, off, none⟩ → b < wa.heap.size := fun e => by
    obtain ⟨_, _, _, e1⟩ := (F.q.rb e).2.1
    exact Nat.lt_of_lt_of_le (Array.getElem?_eq_some_iff.1 e1).1 ha.size
  have FC : CrF n0 W0 ((r.new wa.heap.size (wa.heap.size + 1)).new wc.heap.size (wc.heap.size + 1)) (we.setCell ⟨wc.heap.size, 0, none⟩ (.slice (some ⟨wa.heap.size, 0, none⟩) h h)) A b off cap l L H h :=
    (F.rely hrl).mono (Hold.new (Hold.new (F.rely hrl).q.hold _ _) _ _) fun _ h => .inl (.inl h)
  have hQc : (we.setCell ⟨wc.heap.size, 0, none⟩ (.slice (some ⟨wa.heap.size, 0, none⟩) h h)).cell? ⟨wc.heap.size, 0, none⟩ = some (.slice (some ⟨wa.heap.size, 0, none⟩) h h) := (hrowQ.rely he).set _
  have hrowC' : ∀ j, j < h → Cr.Row (we.setCell ⟨wc.heap.size, 0, none⟩ (.slice (some ⟨wa.heap.size, 0, none⟩) h h)) wa.heap.size j := fun j hj => krow ((row_alloc ((hrowC j hj).rely hc) _).rely he) hne
  have hgC : Tryd.prog.globals.size ≤ wa.heap.size := Nat.le_trans F.q.gw ha.size
  have hn0 : n0 ≤ wa.heap.size := Nat.le_trans F.q.hold.le ha.size
  have hrQ : RdB ((r.new wa.heap.size (wa.heap.size + 1)).new wc.heap.size (wc.heap.size + 1)) wc.heap.size := ⟨new_rd_obj, fun a ha => new_rd_cell ha⟩
  have hroC : ((r.new wa.heap.size (wa.heap.size + 1)).new wc.heap.size (wc.heap.size + 1)).rd (.obj wa.heap.size) := .inl new_rd_obj
  have hrC : ∀ a : Addr, a.block = wa.heap.size → 0 ≤ a.off → ((r.new wa.heap.size (wa.heap.size + 1)).new wc.heap.size (wc.heap.size + 1)).rd (.cell a) ∧ ((r.new wa.heap.size (wa.heap.size + 1)).new wc.heap.size (wc.heap.size + 1)).wr (.cell a) := fun a ha _ => ⟨.inl (new_rd_cell ha), .inl (new_wr_cell ha)⟩
  generalize we.setCell ⟨wc.heap.size, 0, none⟩ (.slice (some ⟨wa.heap.size, 0, none⟩) h h) = w2 at FC hQc hrowC'
  generalize (r.new wa.heap.size (wa.heap.size + 1)).new wc.heap.size (wc.heap.size + 1) = r2 at FC hrQ hroC hrC
  clear ha hc he hrowQ hrowC krow hrl F
  generalize wa.heap.size = C at *
  generalize wc.heap.size = Q at *
  simp only [rs7, qSd, Tryd.f6]
  have hF : KW r2 ((Sg.chs []).iv wgL.tWg) w2 w2 := ⟨Rely.refl _ _, trivial⟩
  refine me_run (m := 4) rfl trivial ?_
  repeat w_go kw_rely
  refine Goes.stop (fun w₁ h₁ => ?_)
  replace hF := kw_rely hF h₁
  have hq := hF.1
  clear h₁ hF
  refine me_grp rfl rfl (by decide) loud4 (alWg rfl) fun w3 h3 hlow => ?_
  walk_nrm
  have hr3 : Rely r2 w2 (w3.alloc (Go.ConcR.wgBlock wgL.tWg 0 0)) := rely_alloc (hq.trans h3) _
  have FS : CsF n0 W0 r2 (w3.alloc (Go.ConcR.wgBlock wgL.tWg 0 0)) A b off cap l L H Q C w3.heap.size h 0 :=
    ⟨FC.rely hr3, hr3.cell hQc (hrQ.2 _ rfl), hrQ, Nat.le_trans hgC (Nat.le_of_lt hsz), hgC, hn0, hroC, hrC, fun j hj => (hrowC' j hj).rely hr3, by omega, by omega, hne, fun e => by have := hb0 e; omega, fun o hw => by have : w3.heap.size < w3.heap.size := hlow _ hw; omega, h1, h6, Nat.zero_le _, hok, hbef⟩
  exact cont _ r2 _ Q C w3.heap.size FS ⟨0, 0, alloc_here _ _⟩ ⟨rfl, rfl, rfl, rfl, rfl⟩
end
end Go.Proofs.YtienepcknafddaaDoor
end
