/- WALK: gather's worker: its merge, alone. · WALK: gather's worker in company: from its birth to its question. · WALK: gather's worker in company: its send, its close. · PLAIN LAW of the model: a region that asks the tape for its order, stepped by hand in company (no program text in sight). · WALK: gather's worker in company: a part alone is handed on. · WALK: gather's worker in company: two parts merged; the worker from its birth to its end. -/
import Derived.Test.YtienepcknafddaaDoorM25
import Derived.Conc.CompanyDraw
set_option linter.unusedVariables false
set_option linter.unusedSimpArgs false
section
set_option linter.unusedVariables false
set_option linter.unusedSimpArgs false
set_option linter.unusedVariables false
set_option linter.unusedSimpArgs false
namespace Go.Proofs.YtienepcknafddaaDoor
open Go Go.RowKit Go.Conc Co Cr SimPlain HeapPlain SymPlain

noncomputable def r35 (i : Nat) : Array Oper := match Tryd.f40.body, i with
  | some (.seq (.region _ o _) _), 0 => o
  | some (.seq _ (.seq (.seq (.region _ o _) _) _)), 1 => o
  | some (.seq _ (.seq (.seq _ (.cond _ (.seq (.region _ o _) _) _)) _)), 2 => o
  | some (.seq _ (.seq _ (.seq (.region _ o _) _))), 3 => o
  | some (.seq _ (.seq _ (.seq _ (.region _ o _)))), 4 => o
  | _, _ => #[]
noncomputable def body35 : Code := Tryd.f40.body.getD .skip
theorem body35_eq : body35 = .seq (.region 0 (r35 0) false) (.seq (.seq (.region 1 (r35 1) false) (.cond (.tmp 14) (.seq (.region 2 (r35 2) true) .ret) .skip)) (.seq (.region 3 (r35 3) true) (.region 4 (r35 4) false))) := by kernel_rfl
set_option maxRecDepth 100000 in
set_option maxHeartbeats 4000000 in
theorem merge_wp (T1 T4 P n cp k p q : Nat) (A B : List Ev) (gA gB : Option Addr) (cA cB : Nat) (hp : p = 2 * k) (hq : q = 2 * k + 1) (hk : q < n) (h6 : n ≤ 6) (X0 X3 X4 X5 X6 X7 X8 X9 X10 X11 X12 X13 X14 : Value) (w : World)
    (h1 : w.cell? ⟨T1, 0, none⟩ = some (.slice (some ⟨P, 0, none⟩) n cp)) (h4 : w.cell? ⟨T4, 0, none⟩ = some (.int .i64 k))
    (hA : w.cell? ⟨P, p, none⟩ = some (.slice gA A.length cA)) (hB : w.cell? ⟨P, q, none⟩ = some (.slice gB B.length cB))
    (hl1 : T1 < w.heap.size) (hl2 : T4 < w.heap.size) (hl3 : P < w.heap.size) (hFA : Fine w gA A) (hFB : Fine w gB B) (h60 : A.length + B.length ≤ 60) (hcA : A.length ≤ cA) (hcB : B.length ≤ cB) :
    (Code.region 3 (r35 3) true).wp Tryd.prog (fun e a w' => e = .normal ∧ a.defers = [] ∧ ∃ g c, PB w' g c (mergeP A B) ∧ a.tmps[0]? = some X0 ∧ a.tmps[1]? = some (.pointer (some ⟨T4, 0, none⟩)) ∧ a.tmps[3]? = some (.slice g (mergeP A B).length c) ∧ a.tmps.size = 44)
      ⟨#[X0, .pointer (some ⟨T4, 0, none⟩), .pointer (some ⟨T1, 0, none⟩), X3, X4, X5, X6, X7, X8, X9, X10, X11, X12, X13, X14, undef, undef, undef, undef, undef, undef, undef, undef, undef, undef, undef, undef, undef, undef, undef, undef, undef, undef, undef, undef, undef, undef, undef, undef, undef, undef, undef, undef, undef], []⟩ w := by
  have hcell : ∀ (w1 : World), w1.heap = w.heap → ∀ a, w1.cell? a = w.cell? a := fun w1 e1 a => by unfold World.cell?; rw [e1]
  have hfine : ∀ (w1 : World), w1.heap = w.heap → ∀ g l, Fine w g l → Fine w1 g l := fun w1 e1 g l hf => ⟨by
    rcases hf.1 with hE | ⟨b', o', e2, h2, h3⟩
    · exact .inl hE
    · exact .inr ⟨b', o', e2, by rw [e1]; exact h2, fun i hi => by rw [hcell w1 e1, hcell w1 e1]; exact h3 i hi⟩, hf.2⟩
  have hlen : (mergeP A B).length = A.length + B.length := by rw [(mergeP_perm A B).length_eq, List.length_append]
  have hM : ∀ w1 : World, w1.heap = w.heap → Calls Tryd.prog 41 #[.slice gA A.length cA, .slice gB B.length cB] w1 fun e w' => ∃ g c, e = .returned (.tuple #[.slice g (mergeP A B).length c, .nilIface]) ∧ PB w' g c (mergeP A B) ∧
      w'.cell? ⟨T1, 0, none⟩ = some (.slice (some ⟨P, 0, none⟩) n cp) ∧ w'.cell? ⟨T4, 0, none⟩ = some (.int .i64 k) ∧ w'.cell? ⟨P, p, none⟩ = some (.slice gA A.length cA) ∧ w'.cell? ⟨P, q, none⟩ = some (.slice gB B.length cB) := fun w1 e1 => by
    refine (Merge_any A B gA gB cA cB w1 (hfine w1 e1 _ _ hFA) (hfine w1 e1 _ _ hFB) h60 hcA hcB).mono ?_
    rintro e w' ⟨g, c, rfl, k1, k2⟩
    have key : ∀ (A : Addr) (v : Value), A.block < w.heap.size → w.cell? A = some v → w'.cell? A = some v := fun A v hA hv => (k2.cell (p := A) (by rw [e1]; exact hA)).trans ((hcell w1 e1 A).trans hv)
    exact ⟨g, c, by rw [hlen], PB.of_own k1, key _ _ hl1 h1, key _ _ hl2 h4, key _ _ hl3 hA, key _ _ hl3 hB⟩
  have HM := Lib.hid hM
  have m1 : 2 * (k : Int) = (p : Int) := by omega
  have m2 : (p : Int) + 1 = (q : Int) := by omega
  have w1 : IntKind.i64.wrap (p : Int) = (p : Int) := by rw [IntKind.wrap_i64]; omega
  have w2 : IntKind.i64.wrap (q : Int) = (q : Int) := by rw [IntKind.wrap_i64]; omega
  have i1 : (0 : Int) ≤ (p : Int) := by omega
  have i2 : (0 : Int) ≤ (q : Int) := by omega
  have i3 : (p : Int) < (n : Int) := by omega
  have i4 : (q : Int) < (n : Int) := by omega
  clear hM hfine hcell hFA hFB h60 hcA hcB hp hq hlen hk h6
  generalize mergeP A B = M at *
  generalize A.length = NA at *
  generalize B.length = NB at *
  generalize M.length = NM at *
  simp only [r35, Tryd.f40]
  go_region_held3 (fun w' => w'.cell? ⟨T1, 0, none⟩ = some (.slice (some ⟨P, 0, none⟩) n cp) ∧ w'.cell? ⟨T4, 0, none⟩ = some (.int .i64 k) ∧ w'.cell? ⟨P, p, none⟩ = some (.slice gA NA cA) ∧ w'.cell? ⟨P, q, none⟩ = some (.slice gB NB cB))
    (first | exact ⟨h1, h4, hA, hB⟩ | exact ⟨k1, k2, k3, k4⟩)
    (first | (go_at_call 41; refine (HM.out w.drew rfl).mono ?_; rintro e w4 ⟨g, c, rfl, hPB, k1, k2, k3, k4⟩; have HPB := Lib.hid hPB; clear hPB))
  all_goals exact ⟨rfl, rfl, _, _, HPB.out, rfl, rfl, rfl, rfl⟩
end Go.Proofs.YtienepcknafddaaDoor
end

section
set_option linter.unusedVariables false
set_option linter.unusedSimpArgs false
set_option linter.unusedVariables false
set_option linter.unusedSimpArgs false
namespace Go.Proofs.YtienepcknafddaaDoor
open Go Go.RowKit Go.Conc Co Cr SimPlain HeapPlain SymPlain
open Go.ConcM

noncomputable def r35a : Array Oper := r35 0
noncomputable def r35b : Array Oper := r35 1
noncomputable def r35c : Array Oper := r35 2
noncomputable def r35d : Array Oper := r35 3
noncomputable def r35e : Array Oper := r35 4
theorem body35_eq' : body35 = .seq (.region 0 r35a false) (.seq (.seq (.region 1 r35b false) (.cond (.tmp 14) (.seq (.region 2 r35c true) .ret) .skip)) (.seq (.region 3 r35d true) (.region 4 r35e false))) := body35_eq
/-- the record of gather's worker -/
def b35 (kd : CallKind) : Frame := { fn := 40, tmps := #[], todo := [], defers := [], mode := .run, kind := kd }
theorem loud35 : (Tryd.prog.funcs[40]?).any (·.norace) = false := by kernel_rfl
def call35 (T3 T4 T1 : Nat) : Deferred := { target := .fn (.func 40) #[.pointer (some ⟨T3, 0, none⟩), .pointer (some ⟨T4, 0, none⟩), .pointer (some ⟨T1, 0, none⟩)], args := #[] }
def tm35 (T3 T4 T1 : Nat) (x3 x4 x5 x6 x7 x8 x9 x10 x11 x12 x13 x14 : Value) : Array Value := #[.pointer (some ⟨T3, 0, none⟩), .pointer (some ⟨T4, 0, none⟩), .pointer (some ⟨T1, 0, none⟩), x3, x4, x5, x6, x7, x8, x9, x10, x11, x12, x13, x14, undef, undef, undef, undef, undef, undef, undef, undef, undef, undef, undef, undef, undef, undef, undef, undef, undef, undef, undef, undef, undef, undef, undef, undef, undef, undef, undef, undef, undef]
theorem born35 (T3 T4 T1 : Nat) (w : World) : stepG Tryd.prog false (born Tryd.prog (call35 T3 T4 T1)) w = .go (G ((b35 .deferred).at ⟨tm35 T3 T4 T1 undef undef undef undef undef undef undef undef undef undef undef undef, []⟩ [.code body35]) [bot10]) w #[] := by
  simp [born, call35, stepG, unwind, callDeferred, invoke, callFunc, Tryd.func40, Tryd.f40, seen, GStep.after, G, Frame.enter, Frame.at, b35, bot10, body35, tm35]
theorem quits35 (T : Array Value) : QuitsD Tryd.prog 2 0 (G { (b35 .deferred).at ⟨T, []⟩ [] with mode := .returning } [bot10]) := by
  refine QuitsD.ctl (g' := G bot10 []) rfl (fun w => ?_) ?_
  · simp [G, stepG, unwind, doReturn, results, Frame.at, b35, bot10, Tryd.func40, Tryd.f40, seen, GStep.after, goexitEntry]
  refine QuitsD.ctl (g' := { G bot10 [] with status := .finished }) rfl (fun w => ?_) ⟨rfl, rfl⟩
  simp [G, stepG, unwind, bot10, goexitEntry, Frame.catches]
  rfl
/-- what gather's worker knows -/
structure GwF (r : Rts) (w : World) (T3 T4 T1 O P c m n cp k : Nat) : Prop where
  h3 : w.cell? ⟨T3, 0, none⟩ = some (.slice (some ⟨O, 0, none⟩) m m)
  h4 : w.cell? ⟨T4, 0, none⟩ = some (.int .i64 k)
  h1 : w.cell? ⟨T1, 0, none⟩ = some (.slice (some ⟨P, 0, none⟩) n cp)
  hO : w.cell? ⟨O, k, none⟩ = some (.chan (some c))
  r3 : RdB r T3
  r4 : RdB r T4
  r1 : RdB r T1
  rP : RdB r P
  rO : r.rd (.cell ⟨O, k, none⟩)
  rc : r.rd (.obj c)
  gl : ∀ B, (B = T3 ∨ B = T4 ∨ B = T1 ∨ B = P) → Tryd.prog.globals.size ≤ B
  hk : k < m
  h6 : n ≤ 6
  sub : ∀ l, r.wr l → r.rd l
/-- a list that stands in a row of lists -/
def PartAt (r : Rts) (w : World) (P i : Nat) (W : List Ev) : Prop := ∃ g c, w.cell? ⟨P, i, none⟩ = some (.slice g W.length c) ∧ PA r w g c W
/-- the worker's piece of work, done -/
def JG (M : List Ev) : Jb := fun v q w => (∃ g c, v = .slice g M.length c ∧ PA q w g c M) ∧ ∀ l, q.wr l → q.rd l
theorem JG.st (M : List Ev) : JSt (JG M) := by
  rintro v q w w1 ⟨⟨g, c, h1, h2⟩, h3⟩ hk
  exact ⟨⟨g, c, h1, h2.rely hk⟩, h3⟩
section
variable {r : Rts} {w w' : World} {T3 T4 T1 O P c m n cp k : Nat}
theorem GwF.rely (h : GwF r w T3 T4 T1 O P c m n cp k) (q : Rely r w w') : GwF r w' T3 T4 T1 O P c m n cp k :=
  { h with h3 := q.cell h.h3 (h.r3.2 _ rfl), h4 := q.cell h.h4 (h.r4.2 _ rfl), h1 := q.cell h.h1 (h.r1.2 _ rfl), hO := q.cell h.hO h.rO }
theorem PartAt.rely {i : Nat} {W : List Ev} (h : PartAt r w P i W) (hr : RdB r P) (q : Rely r w w') : PartAt r w' P i W := by
  obtain ⟨g, c, h1, h2⟩ := h
  exact ⟨g, c, q.cell h1 (hr.2 _ rfl), h2.rely q⟩
abbrev ds35 (c : Nat) : List Deferred := [dclose c #[72] 0 #[false]]
set_option maxRecDepth 100000 in
set_option maxHeartbeats 4000000 in
theorem gw_head {J : Jb} {p q : Nat} (F : GwF r w T3 T4 T1 O P c m n cp k) (hp : p = 2 * k) (hq : q = 2 * k + 1) (hqn : q ≤ n)
    (next : ∀ w1, Rely r w w1 → WkE Tryd.prog wgL.tWg (fun _ => True) 0 c J .open_ r (G ((b35 .deferred).at ⟨tm35 T3 T4 T1 undef undef (.slice (some ⟨O, 0, none⟩) m m) (.int .i64 k) (.pointer (some ⟨O, k, none⟩)) (.chan (some c)) (.int .i64 k) (.int .i64 p) (.int .i64 q) (.slice (some ⟨P, 0, none⟩) n cp) (.int .i64 n) (.bool (decide (q = n))), ds35 c⟩ [.code (.cond (.tmp 14) (.seq (.region 2 r35c true) .ret) .skip), .code (.seq (.region 3 r35d true) (.region 4 r35e false))]) [bot10]) w1) :
    WkE Tryd.prog wgL.tWg (fun _ => True) 0 c J .open_ r (born Tryd.prog (call35 T3 T4 T1)) w := by
  have hk := F.hk
  have h6 := F.h6
  have m1 : 2 * (k : Int) = (p : Int) := by omega
  have m2 : (p : Int) + 1 = (q : Int) := by omega
  have e1 : IntKind.i64.wrap (p : Int) = (p : Int) := by rw [IntKind.wrap_i64]; omega
  have e2 : IntKind.i64.wrap (q : Int) = (q : Int) := by rw [IntKind.wrap_i64]; omega
  have i1 : (0 : Int) ≤ (k : Int) := by omega
  have i2 : (k : Int) < (m : Int) := by omega
  have i3 : ((q : Int) == (n : Int)) = decide (q = n) := by by_cases h : q = n <;> simp [h] <;> omega
  refine wk_ctl trivial rfl (born35 T3 T4 T1) rfl ?_
  rw [body35_eq']
  have hF : KW r (fun _ => True) w w := ⟨Rely.refl _ _, trivial⟩
  clear hp hq hqn hk h6
  simp only [r35a, r35b, r35, Tryd.f40, tm35]
  refine wk_run (m := 2) trivial rfl ?_
  w_go kw_rely
  w_go kw_rely
  refine Goes.stop (fun w₁ h₁ => ⟨rfl, ?_⟩)
  replace hF := kw_rely hF h₁
  clear h₁
  refine wk_ld rfl rfl (by decide) loud35 trivial (ld68 rfl rfl) rfl (hF.1.cell F.h3 (F.r3.2 _ rfl)) (F.r3.2 _ rfl) ?_
  walk_nrm
  refine wk_ld rfl rfl (by decide) loud35 trivial (ld3 rfl rfl) rfl (hF.1.cell F.h4 (F.r4.2 _ rfl)) (F.r4.2 _ rfl) ?_
  walk_nrm
  refine wk_run (m := 2) trivial rfl ?_
  w_go kw_rely
  refine Goes.stop (fun w₁ h₁ => ⟨rfl, ?_⟩)
  replace hF := kw_rely hF h₁
  clear h₁
  refine wk_ld rfl rfl (by decide) loud35 trivial (ld69 rfl rfl) rfl (hF.1.cell F.hO F.rO) F.rO ?_
  walk_nrm
  refine wk_ctl trivial rfl (fun w1 => stepG_deferC rfl rfl (by decide) rfl rfl) rfl ?_
  walk_nrm
  refine wk_run (m := 4) trivial rfl ?_
  repeat w_go kw_rely
  refine Goes.stop (fun w₁ h₁ => ⟨rfl, ?_⟩)
  replace hF := kw_rely hF h₁
  clear h₁
  refine wk_ld rfl rfl (by decide) loud35 trivial (ld3 rfl rfl) rfl (hF.1.cell F.h4 (F.r4.2 _ rfl)) (F.r4.2 _ rfl) ?_
  walk_nrm
  refine wk_run (m := 4) trivial rfl ?_
  w_go kw_rely
  w_go kw_rely
  refine Goes.stop (fun w₁ h₁ => ⟨rfl, ?_⟩)
  replace hF := kw_rely hF h₁
  clear h₁
  refine wk_ld rfl rfl (by decide) loud35 trivial (ld35 rfl rfl) rfl (hF.1.cell F.h1 (F.r1.2 _ rfl)) (F.r1.2 _ rfl) ?_
  walk_nrm
  refine wk_run (m := 4) trivial rfl ?_
  w_go kw_rely
  w_go kw_rely
  w_go kw_rely
  refine Goes.stop (fun w₁ h₁ => ⟨rfl, ?_⟩)
  replace hF := kw_rely hF h₁
  clear h₁
  exact next _ hF.1
end
end Go.Proofs.YtienepcknafddaaDoor
end

section
set_option linter.unusedVariables false
set_option linter.unusedSimpArgs false
set_option linter.unusedVariables false
set_option linter.unusedSimpArgs false
namespace Go.Proofs.YtienepcknafddaaDoor
open Go Go.RowKit Go.Conc Co Cr SimPlain HeapPlain SymPlain
open Go.ConcM

section
variable {ρ : Operand → Value} {o : Oper} {x y : Operand} {B n c k : Nat}
theorem ix68 (hk : k < n) (hop : o.op = .indexAddr 71 x y) (hx : ρ x = .slice (some ⟨B, 0, none⟩) n c) (hy : ρ y = .int .i64 k) (w : World) : (execOp ρ o).run Tryd.prog w = .ok (.value (.pointer (some ⟨B, k, none⟩))) w ∧ (execOp ρ o).events Tryd.prog w #[] = #[] := by
  have i1 : (0 : Int) ≤ (k : Int) := by omega
  have i2 : (k : Int) < (n : Int) := by omega
  have i3 : ¬ ((n : Int) ≤ (k : Int)) := by omega
  unfold execOp; simp only [hop, hx, hy]; simp [go_sem, i1, i2, i3]
theorem ix35 (hk : k < n) (hop : o.op = .indexAddr 37 x y) (hx : ρ x = .slice (some ⟨B, 0, none⟩) n c) (hy : ρ y = .int .i64 k) (w : World) : (execOp ρ o).run Tryd.prog w = .ok (.value (.pointer (some ⟨B, k, none⟩))) w ∧ (execOp ρ o).events Tryd.prog w #[] = #[] := by
  have i1 : (0 : Int) ≤ (k : Int) := by omega
  have i2 : (k : Int) < (n : Int) := by omega
  have i3 : ¬ ((n : Int) ≤ (k : Int)) := by omega
  unfold execOp; simp only [hop, hx, hy]; simp [go_sem, i1, i2, i3]
theorem mv1 {v : Value} (hop : o.op = .move x) (hx : ρ x = v) (w : World) : (execOp ρ o).run Tryd.prog w = .ok (.value v) w ∧ (execOp ρ o).events Tryd.prog w #[] = #[] := by
  unfold execOp; simp only [hop, hx]; simp
theorem mul2 (k p : Nat) (hp : p = 2 * k) (hb : p ≤ 1000) (hop : o.op = .binOp .mul 3 (.const (.int .i64 2)) x 3) (h2 : ρ (.const (.int .i64 2)) = .int .i64 2) (hx : ρ x = .int .i64 k) (w : World) : (execOp ρ o).run Tryd.prog w = .ok (.value (.int .i64 p)) w ∧ (execOp ρ o).events Tryd.prog w #[] = #[] := by
  have m1 : 2 * (k : Int) = (p : Int) := by omega
  have e1 : IntKind.i64.wrap (p : Int) = (p : Int) := by rw [IntKind.wrap_i64]; omega
  unfold execOp; simp only [hop, hx, h2]; simp [go_sem, m1, e1]
end
theorem quits35' (T : Array Value) (todo : List Item) : QuitsD Tryd.prog 2 0 (G { (b35 .deferred).at ⟨T, []⟩ todo with mode := .returning } [bot10]) := by
  refine QuitsD.ctl (g' := G bot10 []) rfl (fun w => ?_) ?_
  · simp [G, stepG, unwind, doReturn, results, Frame.at, b35, bot10, Tryd.func40, Tryd.f40, seen, GStep.after, goexitEntry]
  refine QuitsD.ctl (g' := { G bot10 [] with status := .finished }) rfl (fun w => ?_) ⟨rfl, rfl⟩
  simp [G, stepG, unwind, bot10, goexitEntry, Frame.catches]
  rfl
section
variable {r : Rts} {w w' : World} {T3 T4 T1 O P c m n cp k : Nat} {M : List Ev} {v : Value}
theorem gw_close (t : Array Value) (todo : List Item) (hc : r.rd (.obj c)) (hJ : JG M v r w) : WkE Tryd.prog wgL.tWg (fun _ => True) 0 c (JG M) (.sent v) r (G { (b35 .deferred).at ⟨t, ds35 c⟩ todo with mode := .returning } [bot10]) w :=
  WkE.close rfl rfl hc fun w1 h1 _ => ⟨JG.st M _ _ _ _ hJ h1, _, ⟨2, quits35' t todo⟩, fun cap buf s k tm hch => stepG_close rfl loud35 hch⟩
set_option maxRecDepth 100000 in
set_option maxHeartbeats 4000000 in
theorem gw_send4 (t : Array Value) (hs : t.size = 44) (h0 : t[0]? = some (.pointer (some ⟨T3, 0, none⟩))) (h1 : t[1]? = some (.pointer (some ⟨T4, 0, none⟩))) (h3 : t[3]? = some v) (F : GwF r w T3 T4 T1 O P c m n cp k) (hJ : JG M v r w) :
    WkE Tryd.prog wgL.tWg (fun _ => True) 0 c (JG M) .open_ r (G ((b35 .deferred).at ⟨t, ds35 c⟩ [.code (.region 4 r35e false)]) [bot10]) w := by
  simp only [r35e, r35, Tryd.f40]
  refine wk_ctl trivial rfl (fun _ => stepG_region) rfl ?_
  simp only [List.size_toArray, List.length_cons, List.length_nil, Nat.reduceAdd, Nat.zero_add, List.range, List.range.loop]
  refine wk_ld rfl rfl (by decide) loud35 trivial (ld68 rfl (by simp [_root_.Go.Act.eval, h0])) rfl F.h3 (F.r3.2 _ rfl) ?_
  simp only [_root_.Go.Act.put]
  refine wk_ld rfl rfl (by decide) loud35 trivial (ld3 rfl (by simp [_root_.Go.Act.eval, h1, Array.getElem?_setIfInBounds])) rfl F.h4 (F.r4.2 _ rfl) ?_
  simp only [_root_.Go.Act.put]
  refine wk_op rfl rfl (by decide) loud35 trivial (ix68 (B := O) (c := m) F.hk rfl (by simp [_root_.Go.Act.eval, Array.getElem?_setIfInBounds, hs]) (by simp [_root_.Go.Act.eval, Array.getElem?_setIfInBounds, hs])) ?_
  simp only [_root_.Go.Act.put]
  refine wk_ld rfl rfl (by decide) loud35 trivial (ld69 rfl (by simp [_root_.Go.Act.eval, Array.getElem?_setIfInBounds, hs])) rfl F.hO F.rO ?_
  simp only [_root_.Go.Act.put]
  refine wk_op rfl rfl (by decide) loud35 trivial (mv1 (v := v) rfl (by simp [_root_.Go.Act.eval, Array.getElem?_setIfInBounds, h3])) ?_
  simp only [_root_.Go.Act.put]
  refine wk_send (v := v) rfl rfl (by decide) rfl (by simp [_root_.Go.Act.eval, Array.getElem?_setIfInBounds, hs]) (by simp [_root_.Go.Act.eval, Array.getElem?_setIfInBounds, hs]) ?_
  simp only [_root_.Go.Act.put]
  refine wk_ctl trivial rfl (fun _ => stepG_region_end) rfl ?_
  refine wk_ctl trivial rfl (fun _ => stepG_end) rfl ?_
  exact gw_close _ _ F.rc hJ
end
end Go.Proofs.YtienepcknafddaaDoor
end

section
namespace Co
open Go
theorem OrdInv.done' {ops : Array Oper} {n j : Nat} {r : List Nat} (h : OrdInv ops (n :: r)) {o : Oper} (ho : ops[n]? = some o) (hb : (o.after.any fun e => e.on == j && Region.binds .any e) = true) : j ∉ n :: r := by
  obtain ⟨e, he, h1⟩ := Array.any_eq_true'.1 hb
  simp only [Bool.and_eq_true, beq_iff_eq] at h1
  rw [← h1.1]
  exact h.done ho he h1.2
theorem op_at {ops : Array Oper} {i : Nat} (h : i < ops.size) : ops[i]? = some (ops.getD i default) := by
  rw [Array.getD_eq_getD_getElem?, Array.getElem?_eq_getElem h]
  rfl
end Co
namespace Cr
open Go Go.Conc Co Go.RowKit
section
variable {P : Program} {ty : TypeId} {Post : Value → World → Prop} {σ : Sg} {d : Nat} {r : Rts} {b : Frame} {a : _root_.Go.Act} {k : List Item} {cs : List Frame} {w : World} {ops : Array Oper} {id : Nat}
theorem wanted_free {o : Oper} (h : o.guard = none) (y : Nat → Option Bool) : Region.wanted o y = true := by unfold Region.wanted; rw [h]
theorem guar_draw {S : Loc → Prop} {main : Bool} (w : World) : Guar r S main w { w with drawn := w.drawn + 1 } #[] := ⟨Turn.at _ w (w.drawn + 1), by simp⟩
theorem wk_draw {Iv : World → Prop} {Wg c : Nat} {J : Jb} {ph : WPh} (hlv : ph.live) (hall : ∀ mixed t i, i < ops.size → i ∈ Region.schedule mixed ops t)
    (h : ∀ l, OrdInv ops l → (∀ i, i < ops.size → i ∈ l) → WkE P ty Iv Wg c J ph r (G (b.at a (.inRegion ops l :: k)) cs) w) : WkE P ty Iv Wg c J ph r (G (b.at a (.code (.region id ops true) :: k)) cs) w :=
  WkE.silent hlv rfl fun w1 h1 _ => ⟨_, _, _, stepG_region_draw, guar_draw w1, rfl, by
    show WkE _ _ _ _ _ _ _ (r.new w1.heap.size w1.heap.size) _ _
    rw [new_self]
    exact (h _ (OrdInv.start _ _) (hall _ _)).rely (h1.trans (Rely.at r w1 (w1.drawn + 1)))⟩
theorem me_draw (hall : ∀ mixed t i, i < ops.size → i ∈ Region.schedule mixed ops t)
    (h : ∀ l, OrdInv ops l → (∀ i, i < ops.size → i ∈ l) → ME P ty Post σ d r (G (b.at a (.inRegion ops l :: k)) cs) w) : ME P ty Post σ d r (G (b.at a (.code (.region id ops true) :: k)) cs) w :=
  ME.silent rfl fun w1 h1 _ => ⟨_, _, _, stepG_region_draw, guar_draw w1, by
    show ME _ _ _ _ _ (r.new w1.heap.size w1.heap.size) _ _
    rw [new_self]
    exact (h _ (OrdInv.start _ _) (hall _ _)).rely (h1.trans (Rely.at r w1 (w1.drawn + 1)))⟩
end
end Cr
end

section
set_option linter.unusedVariables false
set_option linter.unusedSimpArgs false
set_option linter.unusedVariables false
set_option linter.unusedSimpArgs false
namespace Go.Proofs.YtienepcknafddaaDoor
open Go Go.RowKit Go.Conc Co Cr SimPlain HeapPlain SymPlain
open Go.ConcM

theorem c35_size : r35c.size = 10 := by kernel_rfl
noncomputable def oc (i : Nat) : Oper := r35c.getD i default
theorem oc_at {i : Nat} (h : i < 10) : r35c[i]? = some (oc i) := op_at (by rw [c35_size]; exact h)
theorem oc_guard : (List.range 10).all (fun i => (oc i).guard.isNone) = true := by kernel_rfl
theorem oc_wanted {i : Nat} (h : i < 10) (y : Nat → Option Bool) : Region.wanted (oc i) y = true :=
  wanted_free (Option.isNone_iff_eq_none.1 (List.all_eq_true.1 oc_guard i (List.mem_range.2 h))) y
theorem oc_dst : (List.range 9).all (fun i => (oc i).dst == some (15 + i)) = true := by kernel_rfl
theorem oc_dst' {i : Nat} (h : i < 9) : (oc i).dst = some (15 + i) := by simpa using List.all_eq_true.1 oc_dst i (List.mem_range.2 h)
theorem oc9_dst : (oc 9).dst = none := by kernel_rfl
theorem oc0 : (oc 0).op = .load 71 (.tmp 0) := by kernel_rfl
theorem oc1 : (oc 1).op = .load 3 (.tmp 1) := by kernel_rfl
theorem oc2 : (oc 2).op = .indexAddr 71 (.tmp 15) (.tmp 16) := by kernel_rfl
theorem oc3 : (oc 3).op = .load 72 (.tmp 17) := by kernel_rfl
theorem oc4 : (oc 4).op = .load 37 (.tmp 2) := by kernel_rfl
theorem oc5 : (oc 5).op = .load 3 (.tmp 1) := by kernel_rfl
theorem oc6 : (oc 6).op = .binOp .mul 3 (.const (.int .i64 2)) (.tmp 20) 3 := by kernel_rfl
theorem oc7 : (oc 7).op = .indexAddr 37 (.tmp 19) (.tmp 21) := by kernel_rfl
theorem oc8 : (oc 8).op = .load 22 (.tmp 22) := by kernel_rfl
theorem oc9 : (oc 9).op = .send (.tmp 18) (.tmp 23) := by kernel_rfl
def dep (i j : Nat) : Prop := ((oc i).after.any fun e => e.on == j && Region.binds .any e) = true
theorem dep2 : dep 2 0 ∧ dep 2 1 := ⟨by unfold dep; kernel_rfl, by unfold dep; kernel_rfl⟩
theorem dep3 : dep 3 2 := by unfold dep; kernel_rfl
theorem dep6 : dep 6 5 := by unfold dep; kernel_rfl
theorem dep7 : dep 7 4 ∧ dep 7 6 := ⟨by unfold dep; kernel_rfl, by unfold dep; kernel_rfl⟩
theorem dep8 : dep 8 7 := by unfold dep; kernel_rfl
theorem chain9 : chain r35c [9] [3, 8, 2, 7, 0, 1, 4, 6, 5] = true := by kernel_rfl
theorem all9 (mixed : Bool) (t i : Nat) (hi : i < r35c.size) : i ∈ Region.schedule mixed r35c t :=
  schedule_all (o1 := List.range 10) (o2 := List.range 10) (by kernel_rfl) (by kernel_rfl) (by rw [c35_size]; decide) (by rw [c35_size]; decide) (by rw [c35_size]; decide) (by rw [c35_size]; decide) (by kernel_rfl) mixed t hi
section
variable {r : Rts} {w w' : World} {T3 T4 T1 O P c m n cp k : Nat} {M : List Ev} {v : Value}
/-- what has been computed -/
def val2 (O P c m n cp k : Nat) (v : Value) : Nat → Value
  | 0 => .slice (some ⟨O, 0, none⟩) m m
  | 1 => .int .i64 k
  | 2 => .pointer (some ⟨O, k, none⟩)
  | 3 => .chan (some c)
  | 4 => .slice (some ⟨P, 0, none⟩) n cp
  | 5 => .int .i64 k
  | 6 => .int .i64 (2 * k : Nat)
  | 7 => .pointer (some ⟨P, 2 * k, none⟩)
  | _ => v
structure T2 (T3 T4 T1 O P c m n cp k : Nat) (v : Value) (t : Array Value) (l : List Nat) : Prop where
  size : t.size = 44
  t0 : t[0]? = some (.pointer (some ⟨T3, 0, none⟩))
  t1 : t[1]? = some (.pointer (some ⟨T4, 0, none⟩))
  t2 : t[2]? = some (.pointer (some ⟨T1, 0, none⟩))
  val : ∀ i, i < 9 → i ∉ l → t[15 + i]? = some (val2 O P c m n cp k v i)
theorem T2.next {t : Array Value} {i : Nat} {l : List Nat} (h : T2 T3 T4 T1 O P c m n cp k v t (i :: l)) (hi : i < 9) : T2 T3 T4 T1 O P c m n cp k v (t.setIfInBounds (15 + i) (val2 O P c m n cp k v i)) l := by
  refine ⟨by simpa using h.size, ?_, ?_, ?_, fun j hj hn => ?_⟩
  · rw [Array.getElem?_setIfInBounds_ne (by omega)]; exact h.t0
  · rw [Array.getElem?_setIfInBounds_ne (by omega)]; exact h.t1
  · rw [Array.getElem?_setIfInBounds_ne (by omega)]; exact h.t2
  · by_cases e : j = i
    · subst e
      rw [Array.getElem?_setIfInBounds_self_of_lt (by rw [h.size]; omega)]
    · rw [Array.getElem?_setIfInBounds_ne (by omega)]
      exact h.val j hj fun c => by
        rcases List.mem_cons.1 c with c | c
        · exact e c
        · exact hn c
theorem ev_tmp {t : Array Value} {ds : List Deferred} {i : Nat} {v : Value} (h : t[i]? = some v) : (⟨t, ds⟩ : _root_.Go.Act).eval (.tmp i) = v := by simp [_root_.Go.Act.eval, h]
set_option maxRecDepth 100000 in
set_option maxHeartbeats 4000000 in
theorem gw_ops2 (F : GwF r w T3 T4 T1 O P c m n cp k) (hkn : 2 * k < n) (hv : w.cell? ⟨P, 2 * k, none⟩ = some v) (hJ : JG M v r w) (k0 : List Item) : ∀ (l : List Nat) (t : Array Value), OrdInv r35c l → 9 ∈ l → T2 T3 T4 T1 O P c m n cp k v t l →
    WkE Tryd.prog wgL.tWg (fun _ => True) 0 c (JG M) .open_ r (G ((b35 .deferred).at ⟨t, ds35 c⟩ (.inRegion r35c l :: .code .ret :: k0)) [bot10]) w
  | [], _, _, h9, _ => by cases h9
  | i :: l, t, hO, h9, hT => by
    have hi : i < 10 := by have := hO.lt i (by simp); rwa [c35_size] at this
    have hO' := hO.tail
    have go : ∀ j, j < 9 → dep i j → t[15 + j]? = some (val2 O P c m n cp k v j) := fun j hj hd => hT.val j hj (hO.done' (oc_at hi) hd)
    have h6 := F.h6
    by_cases e9 : i = 9
    · subst e9
      obtain rfl := hO.last chain9 (fun j hj => by rw [c35_size] at hj; have : j = 9 ∨ j ∈ [3, 8, 2, 7, 0, 1, 4, 6, 5] := by simp; omega
                                                   exact this)
      have hd := hO.all_done chain9
      have v3 := hT.val 3 (by omega) (hd 3 (by simp))
      have v8 := hT.val 8 (by omega) (hd 8 (by simp))
      refine wk_send (v := v) (oc_at hi) (oc_wanted hi _) (by decide) oc9 (ev_tmp v3) (ev_tmp v8) ?_
      rw [oc9_dst]
      simp only [_root_.Go.Act.put]
      refine wk_ctl trivial rfl (fun _ => stepG_region_end) rfl ?_
      refine wk_ctl trivial rfl (fun _ => stepG_ret') rfl ?_
      exact gw_close _ _ F.rc hJ
    · have hi9 : i < 9 := by omega
      have h9' : 9 ∈ l := by
        rcases List.mem_cons.1 h9 with c | c
        · exact absurd c.symm e9
        · exact c
      have ih := gw_ops2 F hkn hv hJ k0 l _ hO' h9' (hT.next hi9)
      have hdst := oc_dst' hi9
      have key : ∀ x, x = val2 O P c m n cp k v i → WkE Tryd.prog wgL.tWg (fun _ => True) 0 c (JG M) .open_ r (G ((b35 .deferred).at ((⟨t, ds35 c⟩ : _root_.Go.Act).put (oc i).dst x) (.inRegion r35c l :: .code .ret :: k0)) [bot10]) w := fun x e => by
        rw [e, hdst]; exact ih
      match i, hi9, hi, go, key with
      | 0, _, hi, go, key => exact wk_ld (oc_at hi) (oc_wanted hi _) (by decide) loud35 trivial (ld68 oc0 (ev_tmp hT.t0)) rfl F.h3 (F.r3.2 _ rfl) (key _ rfl)
      | 1, _, hi, go, key => exact wk_ld (oc_at hi) (oc_wanted hi _) (by decide) loud35 trivial (ld3 oc1 (ev_tmp hT.t1)) rfl F.h4 (F.r4.2 _ rfl) (key _ rfl)
      | 2, _, hi, go, key => exact wk_op (oc_at hi) (oc_wanted hi _) (by decide) loud35 trivial (ix68 F.hk oc2 (ev_tmp (go 0 (by omega) dep2.1)) (ev_tmp (go 1 (by omega) dep2.2))) (key _ rfl)
      | 3, _, hi, go, key => exact wk_ld (oc_at hi) (oc_wanted hi _) (by decide) loud35 trivial (ld69 oc3 (ev_tmp (go 2 (by omega) dep3))) rfl F.hO F.rO (key _ rfl)
      | 4, _, hi, go, key => exact wk_ld (oc_at hi) (oc_wanted hi _) (by decide) loud35 trivial (ld35 oc4 (ev_tmp hT.t2)) rfl F.h1 (F.r1.2 _ rfl) (key _ rfl)
      | 5, _, hi, go, key => exact wk_ld (oc_at hi) (oc_wanted hi _) (by decide) loud35 trivial (ld3 oc5 (ev_tmp hT.t1)) rfl F.h4 (F.r4.2 _ rfl) (key _ rfl)
      | 6, _, hi, go, key => exact wk_op (oc_at hi) (oc_wanted hi _) (by decide) loud35 trivial (mul2 k (2 * k) rfl (by omega) oc6 rfl (ev_tmp (go 5 (by omega) dep6))) (key _ rfl)
      | 7, _, hi, go, key => exact wk_op (oc_at hi) (oc_wanted hi _) (by decide) loud35 trivial (ix35 hkn oc7 (ev_tmp (go 4 (by omega) dep7.1)) (ev_tmp (go 6 (by omega) dep7.2))) (key _ rfl)
      | 8, _, hi, go, key => exact wk_ld (oc_at hi) (oc_wanted hi _) (by decide) loud35 trivial (ld22 oc8 (ev_tmp (go 7 (by omega) dep8))) rfl hv (F.rP.2 _ rfl) (key _ rfl)
end
end Go.Proofs.YtienepcknafddaaDoor
end

section
set_option linter.unusedVariables false
set_option linter.unusedSimpArgs false
set_option linter.unusedVariables false
set_option linter.unusedSimpArgs false
namespace Go.Proofs.YtienepcknafddaaDoor
open Go Go.RowKit Go.Conc Co Cr SimPlain HeapPlain SymPlain
open Go.ConcM

theorem VR.ptr_eq {ok : FuncId → Prop} {ρ0 ρ : Ren} {b o : Nat} {v : Value} (hx : Ext ρ0 ρ) (hd : ρ0.dom b) (hto : ρ0.to b = b) (h : VR ok ρ (.pointer (some ⟨b, o, none⟩)) v) : v = .pointer (some ⟨b, o, none⟩) := by
  cases h with
  | ptr ha =>
    obtain ⟨_, rfl⟩ := ha
    simp only [(hx.at_ b hd).2, hto]
/-- what the merge leaves -/
def RelM (T3 T4 : Nat) (L : List Ev) (t : Array Value) (w : World) : Prop := ∃ g c, PB w g c L ∧ t[0]? = some (.pointer (some ⟨T3, 0, none⟩)) ∧ t[1]? = some (.pointer (some ⟨T4, 0, none⟩)) ∧ t[3]? = some (.slice g L.length c) ∧ t.size = 44
theorem relM_carried {ρ0 : Ren} {T3 T4 : Nat} {L : List Ev} (h3 : ρ0.dom T3) (h3' : ρ0.to T3 = T3) (h4 : ρ0.dom T4) (h4' : ρ0.to T4 = T4) : Carried cwL Tryd.prog ρ0 (RelM T3 T4 L) := by
  rintro ρ t t' w w' hx _ ht hw ⟨g, c, hp, e0, e1, e3, hs⟩
  obtain ⟨v0, f0, r0⟩ := ht.get e0
  obtain ⟨v1, f1, r1⟩ := ht.get e1
  obtain ⟨v3, f3, r3⟩ := ht.get e3
  obtain ⟨g', rfl, hp', _⟩ := hp.carry hw r3
  rw [VR.ptr_eq hx h3 h3' r0] at f0
  rw [VR.ptr_eq hx h4 h4' r1] at f1
  exact ⟨g', c, hp', f0, f1, f3, by rw [← ht.1]; exact hs⟩
section
variable {r : Rts} {w w' : World} {T3 T4 T1 O P c m n cp k : Nat} {M : List Ev} {v : Value}
theorem pa_carry {W0 W' ws : World} {ρs ρ : Ren} {r0 r' : Rts} {g : Option Addr} {cc nn : Nat} {v : Value} {L : List Ev} (hway : Cr.Way ρs r0 W0 ρ r' W') (hto : ∀ b, ρs.to b = b) (hgl : ∀ b, ρs.dom b → Tryd.prog.globals.size ≤ b) (hg : Tryd.prog.globals.size ≤ W0.heap.size) (hw : WR (· ∈ cwL) ρ ws W') (h : PB ws g cc L) (hv : VR (· ∈ cwL) ρ (.slice g nn cc) v) : ∃ g', v = .slice g' nn cc ∧ PA r' W' g' cc L := by
  obtain ⟨g', rfl, hp, hd⟩ := h.carry hw hv
  refine ⟨g', rfl, hp, fun hL b e => ?_, fun b e => ?_⟩
  · obtain ⟨b0, e0, _, h2⟩ := h.off hL
    obtain ⟨hd0, hg0⟩ := hd b0 e0
    rw [e] at hg0
    simp only [Option.some.injEq, Addr.mk.injEq, and_true] at hg0
    subst hg0
    have hns : ¬ ρ.shut b0 := hw.notShut (a := ⟨b0, 0 * 2, none⟩) hd0 (h2 0 (List.length_pos_iff.2 hL)).1
    exact ⟨hway.cov.obj b0 hd0 hns, fun a ha => hway.cov.rd b0 hd0 hns a ha⟩
  · rcases h.shape with ⟨c0, c1⟩ | ⟨b1, e1⟩
    · subst c0
      cases hv
      cases e
    · obtain ⟨hd0, hg0⟩ := hd b1 e1
      rw [e] at hg0
      simp only [Option.some.injEq, Addr.mk.injEq, and_true] at hg0
      subst hg0
      rcases hway.old b1 hd0 with c | c
      · rw [(hway.ext.at_ b1 c).2, hto]; exact hgl b1 c
      · exact Nat.le_trans hg c
theorem GwF.mono {r' : Rts} (h : GwF r w T3 T4 T1 O P c m n cp k) (e : ∀ l, r.rd l → r'.rd l) (hs : ∀ l, r'.wr l → r'.rd l) : GwF r' w T3 T4 T1 O P c m n cp k :=
  { h with r3 := ⟨e _ h.r3.1, fun a x => e _ (h.r3.2 a x)⟩, r4 := ⟨e _ h.r4.1, fun a x => e _ (h.r4.2 a x)⟩, r1 := ⟨e _ h.r1.1, fun a x => e _ (h.r1.2 a x)⟩, rP := ⟨e _ h.rP.1, fun a x => e _ (h.rP.2 a x)⟩, rO := e _ h.rO, rc := e _ h.rc, sub := hs }
theorem slice_vr {D S M : Nat → Prop} {g : Option Addr} {nn cc : Nat} {W : List Ev} (h : PA r w g cc W) (hD : ∀ b, g = some ⟨b, 0, none⟩ → D b) : VR (· ∈ cwL) (gr Tryd.prog w D S M) (.slice g nn cc) (.slice g nn cc) := by
  rcases h.pb.shape with ⟨rfl, _⟩ | ⟨b, rfl⟩
  · exact .slNil _ _
  · exact .sl _ _ ⟨⟨hD b rfl, h.gl b rfl, h.pb.ex b rfl⟩, rfl⟩
theorem fine_ghost {D : Nat → Prop} {g : Option Addr} {cc : Nat} {W : List Ev} {T : Tape} (h : PA r w g cc W) (hD : ∀ b, g = some ⟨b, 0, none⟩ → D b) (h60 : W.length ≤ 60) (hok : ∀ e ∈ W, okE e = true) (hlt : W.Pairwise SimPlain.Lt) : Fine (on (gh cwL Tryd.prog w D (fun b => ¬ RdB r b) (fun _ => False)) T 0) g W := by
  refine ⟨?_, chkI_of h60 hok, rises_of hlt⟩
  by_cases hW : W = []
  · exact .inl hW
  · obtain ⟨b, e, hl, h2⟩ := h.pb.off hW
    have hr := h.rd hW b e
    have hs : ¬ ¬ RdB r b := fun c => c hr
    refine .inr ⟨b, 0, e, by rw [show (on (gh cwL Tryd.prog w D (fun b => ¬ RdB r b) (fun _ => False)) T 0).heap.size = w.heap.size from gw_size]; exact hl, fun i hi => ?_⟩
    have := h2 i hi
    simp only [Nat.zero_add]
    exact ⟨gw_cell this.1 hs (.int _ _), gw_cell this.2 hs (.int _ _)⟩
set_option maxRecDepth 100000 in
set_option maxHeartbeats 4000000 in
theorem gw_pair {A B : List Ev} (F : GwF r w T3 T4 T1 O P c m n cp k) (hkn : 2 * k + 1 < n) (hA : PartAt r w P (2 * k) A) (hB : PartAt r w P (2 * k + 1) B) (h60 : A.length + B.length ≤ 60) (hok : ∀ e ∈ A ++ B, okE e = true) (hlA : A.Pairwise SimPlain.Lt) (hlB : B.Pairwise SimPlain.Lt)
    (x5 x6 x7 x8 x9 x10 x11 x12 x13 x14 : Value) : WkE Tryd.prog wgL.tWg (fun _ => True) 0 c (JG (mergeP A B)) .open_ r (G ((b35 .deferred).at ⟨tm35 T3 T4 T1 undef undef x5 x6 x7 x8 x9 x10 x11 x12 x13 x14, ds35 c⟩ [.code (.region 3 r35d true), .code (.region 4 r35e false)]) [bot10]) w := by
  obtain ⟨gA, cA, cellA, pA⟩ := hA
  obtain ⟨gB, cB, cellB, pB⟩ := hB
  let D : Nat → Prop := fun x => (x = T1 ∨ x = T3 ∨ x = T4 ∨ x = P) ∨ gA = some ⟨x, 0, none⟩ ∨ gB = some ⟨x, 0, none⟩
  let S : Nat → Prop := fun b => ¬ RdB r b
  let Mm : Nat → Prop := fun _ => False
  have dT1 : (gr Tryd.prog w D S Mm).dom T1 := ⟨.inl (.inl rfl), F.gl _ (.inr (.inr (.inl rfl))), cell_block F.h1⟩
  have dT3 : (gr Tryd.prog w D S Mm).dom T3 := ⟨.inl (.inr (.inl rfl)), F.gl _ (.inl rfl), cell_block F.h3⟩
  have dT4 : (gr Tryd.prog w D S Mm).dom T4 := ⟨.inl (.inr (.inr (.inl rfl))), F.gl _ (.inr (.inl rfl)), cell_block F.h4⟩
  have dP : (gr Tryd.prog w D S Mm).dom P := ⟨.inl (.inr (.inr (.inr rfl))), F.gl _ (.inr (.inr (.inr rfl))), cell_block cellA⟩
  have hg : Tryd.prog.globals.size ≤ w.heap.size := Nat.le_trans dT1.2.1 (Nat.le_of_lt (cell_lt F.h1))
  have ns : ∀ {b : Nat}, RdB r b → ¬ S b := fun h c => c h
  refine wk_str (ph := .open_) (f := 40) (k := [.code (.region 4 r35e false)]) cw_funs ⟨_, rfl⟩ (by decide) (by kernel_rfl) hg D S Mm cov_S (RelM T3 T4 (mergeP A B)) (relM_carried dT3 rfl dT4 rfl) trivial [bot10] (fun T => ?_) fun t' ρ r' W' hR hext hway hgh => ?_
  · have hv1 : VR (· ∈ cwL) (gr Tryd.prog w D S Mm) (.pointer (some ⟨T1, 0, none⟩)) (.pointer (some ⟨T1, 0, none⟩)) := .ptr ⟨dT1, rfl⟩
    have hv3 : VR (· ∈ cwL) (gr Tryd.prog w D S Mm) (.pointer (some ⟨T3, 0, none⟩)) (.pointer (some ⟨T3, 0, none⟩)) := .ptr ⟨dT3, rfl⟩
    have hv4 : VR (· ∈ cwL) (gr Tryd.prog w D S Mm) (.pointer (some ⟨T4, 0, none⟩)) (.pointer (some ⟨T4, 0, none⟩)) := .ptr ⟨dT4, rfl⟩
    have hvU : VR (· ∈ cwL) (gr Tryd.prog w D S Mm) undef undef := undef_vr
    simp only [tm35, mrow, List.map_toArray, List.map_cons, List.map_nil, mask_eq hv1, mask_eq hv3, mask_eq hv4, mask_eq hvU]
    have sz : (on (gh cwL Tryd.prog w D S Mm) T 0).heap.size = w.heap.size := gw_size
    refine merge_wp T1 T4 P n cp k (2 * k) (2 * k + 1) A B gA gB cA cB rfl rfl hkn F.h6 _ _ _ _ _ _ _ _ _ _ _ _ _ _ ?_ ?_ ?_ ?_ ?_ ?_ ?_ ?_ ?_ h60 pA.pb.cap pB.pb.cap
    · exact gw_cell F.h1 (ns F.r1) (.sl _ _ ⟨dP, rfl⟩)
    · exact gw_cell F.h4 (ns F.r4) (.int _ _)
    · exact gw_cell cellA (ns F.rP) (slice_vr pA fun b e => .inr (.inl e))
    · exact gw_cell cellB (ns F.rP) (slice_vr pB fun b e => .inr (.inr e))
    · rw [sz]; exact cell_lt F.h1
    · rw [sz]; exact cell_lt F.h4
    · rw [sz]; exact cell_lt cellA
    · exact fine_ghost pA (fun b e => .inr (.inl e)) (by omega) (fun e he => hok e (List.mem_append_left _ he)) hlA
    · exact fine_ghost pB (fun b e => .inr (.inr e)) (by omega) (fun e he => hok e (List.mem_append_right _ he)) hlB
  · obtain ⟨tg, ws, ht, hw, g, cc, hpb, e0, e1, e3, hsz⟩ := hgh
    obtain ⟨v0, f0, r0⟩ := ht.get e0
    obtain ⟨v1, f1, r1⟩ := ht.get e1
    obtain ⟨v3, f3, r3⟩ := ht.get e3
    rw [VR.ptr_eq hext dT3 rfl r0] at f0
    rw [VR.ptr_eq hext dT4 rfl r1] at f1
    obtain ⟨g', rfl, hPA⟩ := pa_carry hway (fun _ => rfl) (fun b hb => hb.2.1) hg hw hpb r3
    have hrl : Rely r w W' := hway.rely fun b i hb hm => hm.1
    have F' : GwF r' W' T3 T4 T1 O P c m n cp k := (F.rely hrl).mono hway.rd (hway.sub F.sub)
    exact gw_send4 t' (by rw [← ht.1]; exact hsz) f0 f1 f3 F' ⟨⟨g', cc, rfl, hPA⟩, hway.sub F.sub⟩
/-- THE WORKER: a part alone -/
theorem gather_single {A : List Ev} (F : GwF r w T3 T4 T1 O P c m n cp k) (hkn : 2 * k + 1 = n) (hA : PartAt r w P (2 * k) A) : WkE Tryd.prog wgL.tWg (fun _ => True) 0 c (JG A) .open_ r (born Tryd.prog (call35 T3 T4 T1)) w := by
  refine gw_head F rfl rfl (by omega) fun w1 h1 => ?_
  have F1 := F.rely h1
  obtain ⟨gA, cA, cellA, pA⟩ := hA.rely F.rP h1
  simp only [hkn, decide_true]
  refine wk_ctl trivial rfl (fun _ => stepG_cond (t := true) rfl) rfl ?_
  simp only [if_true]
  refine wk_ctl trivial rfl (fun _ => stepG_seq) rfl ?_
  refine wk_draw trivial all9 fun l hl h9 => ?_
  rw [c35_size] at h9
  exact gw_ops2 F1 (by omega) cellA ⟨⟨gA, cA, rfl, pA⟩, F.sub⟩ _ l _ hl (h9 9 (by omega)) ⟨rfl, rfl, rfl, rfl, fun i hi hn => absurd (h9 i (by omega)) hn⟩
/-- .. two merged -/
theorem gather_pair {A B : List Ev} (F : GwF r w T3 T4 T1 O P c m n cp k) (hkn : 2 * k + 1 < n) (hA : PartAt r w P (2 * k) A) (hB : PartAt r w P (2 * k + 1) B) (h60 : A.length + B.length ≤ 60) (hok : ∀ e ∈ A ++ B, okE e = true) (hlA : A.Pairwise SimPlain.Lt) (hlB : B.Pairwise SimPlain.Lt) :
    WkE Tryd.prog wgL.tWg (fun _ => True) 0 c (JG (mergeP A B)) .open_ r (born Tryd.prog (call35 T3 T4 T1)) w := by
  refine gw_head F rfl rfl (by omega) fun w1 h1 => ?_
  have F1 := F.rely h1
  have hne : ¬ (2 * k + 1 = n) := by omega
  simp only [hne, decide_false]
  refine wk_ctl trivial rfl (fun _ => stepG_cond (t := false) rfl) rfl ?_
  simp only [Bool.false_eq_true, if_false]
  refine wk_ctl trivial rfl (fun _ => stepG_skip) rfl ?_
  refine wk_ctl trivial rfl (fun _ => stepG_seq) rfl ?_
  exact gw_pair F1 hkn (hA.rely F.rP h1) (hB.rely F.rP h1) h60 hok hlA hlB _ _ _ _ _ _ _ _ _ _
end
end Go.Proofs.YtienepcknafddaaDoor
end
