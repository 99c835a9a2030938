/- WALK: ricksteadsame.Items in company, from its call to its return. · WALK: CrewHands: its text in parts; the comparing region, in whatever order. · WALK: CrewHands: the comparing region, in whatever order. · WALK: CrewHands: the fact ahead of the law. · WALK: CrewHands: what order.Sort tells. -/
import Derived.Test.YtienepcknafddaaM30
section
set_option linter.unusedVariables false
set_option linter.unusedSimpArgs false
set_option linter.unusedVariables false
set_option linter.unusedSimpArgs false
namespace Go.Proofs.Ytienepcknafddaa
open Go Go.RowKit Go.Conc Co Cr SimPlain HeapPlain SymPlain
open Go.ConcM

theorem arr26 {t : Array Value} (h : t.size = 26) : ∃ x0 x1 x2 x3 x4 x5 x6 x7 x8 x9 x10 x11 x12 x13 x14 x15 x16 x17 x18 x19 x20 x21 x22 x23 x24 x25 : Value, t = #[x0, x1, x2, x3, x4, x5, x6, x7, x8, x9, x10, x11, x12, x13, x14, x15, x16, x17, x18, x19, x20, x21, x22, x23, x24, x25] := by
  obtain ⟨l⟩ := t
  have k0 : l.length = 26 := h
  clear h
  obtain ⟨x0, l1, rfl, k1⟩ := cons_of k0
  obtain ⟨x1, l2, rfl, k2⟩ := cons_of k1
  obtain ⟨x2, l3, rfl, k3⟩ := cons_of k2
  obtain ⟨x3, l4, rfl, k4⟩ := cons_of k3
  obtain ⟨x4, l5, rfl, k5⟩ := cons_of k4
  obtain ⟨x5, l6, rfl, k6⟩ := cons_of k5
  obtain ⟨x6, l7, rfl, k7⟩ := cons_of k6
  obtain ⟨x7, l8, rfl, k8⟩ := cons_of k7
  obtain ⟨x8, l9, rfl, k9⟩ := cons_of k8
  obtain ⟨x9, l10, rfl, k10⟩ := cons_of k9
  obtain ⟨x10, l11, rfl, k11⟩ := cons_of k10
  obtain ⟨x11, l12, rfl, k12⟩ := cons_of k11
  obtain ⟨x12, l13, rfl, k13⟩ := cons_of k12
  obtain ⟨x13, l14, rfl, k14⟩ := cons_of k13
  obtain ⟨x14, l15, rfl, k15⟩ := cons_of k14
  obtain ⟨x15, l16, rfl, k16⟩ := cons_of k15
  obtain ⟨x16, l17, rfl, k17⟩ := cons_of k16
  obtain ⟨x17, l18, rfl, k18⟩ := cons_of k17
  obtain ⟨x18, l19, rfl, k19⟩ := cons_of k18
  obtain ⟨x19, l20, rfl, k20⟩ := cons_of k19
  obtain ⟨x20, l21, rfl, k21⟩ := cons_of k20
  obtain ⟨x21, l22, rfl, k22⟩ := cons_of k21
  obtain ⟨x22, l23, rfl, k23⟩ := cons_of k22
  obtain ⟨x23, l24, rfl, k24⟩ := cons_of k23
  obtain ⟨x24, l25, rfl, k25⟩ := cons_of k24
  obtain ⟨x25, l26, rfl, k26⟩ := cons_of k25
  obtain rfl := List.eq_nil_of_length_eq_zero k26
  exact ⟨x0, x1, x2, x3, x4, x5, x6, x7, x8, x9, x10, x11, x12, x13, x14, x15, x16, x17, x18, x19, x20, x21, x22, x23, x24, x25, rfl⟩
noncomputable def qI0 (x : Unit) : Code := match Try.f6.body with | some (.seq _ (.seq _ c)) => c | _ => .skip
noncomputable def ri0 : Array Oper := match Try.f6.body with | some (.seq (.region _ o _) _) => o | _ => #[]
noncomputable def ri1 : Array Oper := match Try.f6.body with | some (.seq _ (.seq (.seq (.region _ o _) _) _)) => o | _ => #[]
noncomputable def ri2 : Array Oper := match Try.f6.body with | some (.seq _ (.seq (.seq _ (.cond _ (.seq (.region _ o _) _) _)) _)) => o | _ => #[]
noncomputable def ri3 : Array Oper := match Try.f6.body with | some (.seq _ (.seq _ (.seq (.seq (.region _ o _) _) _))) => o | _ => #[]
noncomputable def ri8 : Array Oper := match Try.f6.body with | some (.seq _ (.seq _ (.seq _ (.seq (.region _ o _) _)))) => o | _ => #[]
noncomputable def ri4 : Array Oper := match qI with | .seq (.seq (.region _ o _) _) _ => o | _ => #[]
noncomputable def ri5 : Array Oper := match qI with | .seq _ (.seq _ (.region _ o _)) => o | _ => #[]
noncomputable def ri7 : Array Oper := match qI with | .seq _ (.seq (.block _ (.seq _ (.cond _ (.seq (.region _ o _) _) _))) _) => o | _ => #[]
noncomputable def LI : Code := qI
noncomputable def body6 : Code := Try.f6.body.getD .skip
theorem body6_eq : body6 = .seq (.region 0 ri0 false) (.seq (.seq (.region 1 ri1 false) (.cond (.tmp 10) (.seq (.region 2 ri2 false) .ret) .skip)) (.seq (.seq (.region 3 ri3 false) (.block 0 (.loop LI))) (.seq (.region 8 ri8 false) .ret))) := by kernel_rfl
theorem LI_eq : LI = .seq (.seq (.region 4 ri4 false) (.cond (.tmp 14) .skip (.exit 0))) (.seq (.block 1 (.seq (.region 6 ri6 true) (.cond (.tmp 25) (.seq (.region 7 ri7 false) .ret) .skip))) (.region 5 ri5 false)) := by kernel_rfl
theorem stepLI {m : Bool} {b : Frame} {a : _root_.Go.Act} {k : List Item} {cs : List Frame} {w : World} : stepG Try.prog m (G (b.at a (.code LI :: k)) cs) w = .go (G (b.at a (.code (.seq (.region 4 ri4 false) (.cond (.tmp 14) .skip (.exit 0))) :: .code (.seq (.block 1 (.seq (.region 6 ri6 true) (.cond (.tmp 25) (.seq (.region 7 ri7 false) .ret) .skip))) (.region 5 ri5 false)) :: k)) cs) w #[] := by
  rw [LI_eq]; exact stepG_seq
theorem names6 : (Try.f6.name == "runtime.NumGoroutine") = false := by kernel_rfl
/-- a list that may be read, if it is not empty -/
def PN (r : Rts) (w : World) (g : Option Addr) (c : Nat) (S : List Ev) : Prop := S ≠ [] → PA r w g c S
theorem PN.rely {r : Rts} {w w' : World} {g : Option Addr} {c : Nat} {S : List Ev} (h : PN r w g c S) (q : Rely r w w') : PN r w' g c S := fun e => (h e).rely q
section
variable {Post : Value → World → Prop} {r : Rts} {w w' : World} {N c c' : Nat} {g g' : Option Addr} {S : List Ev} {I : World → Prop}
set_option maxRecDepth 100000 in
set_option maxHeartbeats 8000000 in
theorem items_loop {K : List Item} {cs : List Frame} (hI : ∀ w w', I w → Rely r w w' → I w') (hN : N = S.length) (h60 : N ≤ 60)
    (cont : ∀ (s : Array Value) (w : World), I w → PN r w g c S → PN r w g' c' S → s.size = 26 → ME Try.prog wgL.tWg Post (.chs []) 0 r (G ((base 6).at ⟨s, []⟩ K) cs) w) :
    ∀ (d i : Nat) (s : Array Value) (w : World), d = N - i → i ≤ N → I w → PN r w g c S → PN r w g' c' S → s.size = 26 → s[0]? = some (.slice g N c) → s[1]? = some (.slice g' N c') → s[5]? = some (.int .i64 i) →
      ME Try.prog wgL.tWg Post (.chs []) 0 r (G ((base 6).at ⟨s, []⟩ (.code LI :: .inLoop LI :: .inBlock 0 :: K)) cs) w := by
  intro d
  induction d with
  | zero =>
    intro i s w hd hi q p p' hs h0 h1 h5
    obtain rfl : i = N := by omega
    obtain ⟨x0, x1, x2, x3, x4, x5, x6, x7, x8, x9, x10, x11, x12, x13, x14, x15, x16, x17, x18, x19, x20, x21, x22, x23, x24, x25, rfl⟩ := arr26 hs
    obtain rfl : x0 = _ := by simpa using h0
    obtain rfl : x1 = _ := by simpa using h1
    obtain rfl : x5 = _ := by simpa using h5
    clear hs h0 h1 h5 hd
    have hF : KW r ((Sg.chs []).iv wgL.tWg) w w := ⟨Rely.refl _ _, trivial⟩
    refine me_ctl rfl (fun _ => stepLI) ?_
    simp only [ri4, qI, Try.f6]
    have hlt : ¬ ((i : Int) < (i : Int)) := by omega
    have HN := Lib.hid hN
    clear hN
    refine me_run (m := 9) rfl trivial ?_
    w_go kw_rely
    w_go kw_rely
    w_go kw_rely
    w_go kw_rely
    w_go kw_rely
    w_go kw_rely
    w_go kw_rely
    w_go kw_rely
    w_go kw_rely
    refine Goes.stop (fun w₁ h₁ => ?_)
    replace hF := kw_rely hF h₁
    exact cont _ _ (hI _ _ q hF.1) (p.rely hF.1) (p'.rely hF.1) rfl
  | succ d ih =>
    intro i s w hd hi q p p' hs h0 h1 h5
    have hlt' : i < N := by omega
    obtain ⟨x0, x1, x2, x3, x4, x5, x6, x7, x8, x9, x10, x11, x12, x13, x14, x15, x16, x17, x18, x19, x20, x21, x22, x23, x24, x25, rfl⟩ := arr26 hs
    obtain rfl : x0 = _ := by simpa using h0
    obtain rfl : x1 = _ := by simpa using h1
    obtain rfl : x5 = _ := by simpa using h5
    clear hs h0 h1 h5
    have hF : KW r ((Sg.chs []).iv wgL.tWg) w w := ⟨Rely.refl _ _, trivial⟩
    refine me_ctl rfl (fun _ => stepLI) ?_
    simp only [ri4, ri5, ri7, qI, Try.f6]
    have hlt : ((i : Int) < (N : Int)) := by omega
    have HN := Lib.hid hN
    clear hN
    refine me_run (m := 12) rfl trivial ?_
    w_go kw_rely
    w_go kw_rely
    w_go kw_rely
    w_go kw_rely
    w_go kw_rely
    w_go kw_rely
    w_go kw_rely
    w_go kw_rely
    w_go kw_rely
    w_go kw_rely
    w_go kw_rely
    w_go kw_rely
    refine Goes.stop (fun w₁ h₁ => ?_)
    replace hF := kw_rely hF h₁
    replace q := hI _ _ q hF.1
    replace p := p.rely hF.1
    replace p' := p'.rely hF.1
    clear h₁ hF
    have hS : S ≠ [] := fun e => by have := HN.out; rw [e] at this; simp at this; omega
    obtain ⟨b, rfl, _, hb⟩ := (p hS).pb.off hS
    obtain ⟨b', rfl, _, hb'⟩ := (p' hS).pb.off hS
    have hc := hb i (by have := HN.out; omega)
    have hc' := hb' i (by have := HN.out; omega)
    refine me_draw alli fun l hl h9 => ?_
    rw [ri6_size] at h9
    refine it_ops (b := b) (b' := b') (i := i) (N := N) (c := c) (c' := c') hlt' rfl rfl rfl (by rw [Nat.zero_add]; exact hc.1) (by rw [Nat.zero_add]; exact hc.2) (by rw [Nat.zero_add]; exact hc'.1) (by rw [Nat.zero_add]; exact hc'.2) ((p hS).rd hS b rfl).2 ((p' hS).rd hS b' rfl).2 (fun s hs hsame h25 => ?_) l _ hl ⟨rfl, fun _ _ => rfl, fun j hj hn => absurd (h9 j (by omega)) hn⟩
    clear hc hc' hb hb' hl h9
    obtain ⟨y0, y1, y2, y3, y4, y5, y6, y7, y8, y9, y10, y11, y12, y13, y14, y15, y16, y17, y18, y19, y20, y21, y22, y23, y24, y25, rfl⟩ := arr26 hs
    obtain rfl : y0 = .slice (some ⟨b, 0, none⟩) N c := by have := hsame 0 (by omega); simpa using this
    obtain rfl : y1 = .slice (some ⟨b', 0, none⟩) N c' := by have := hsame 1 (by omega); simpa using this
    obtain rfl : y5 = .int .i64 i := by have := hsame 5 (by omega); simpa using this
    obtain rfl : y25 = .bool false := by simpa using h25
    clear hs hsame h25
    have hF : KW r ((Sg.chs []).iv wgL.tWg) w₁ w₁ := ⟨Rely.refl _ _, trivial⟩
    have hwr : IntKind.i64.wrap ((i : Int) + 1) = (i : Int) + 1 := by rw [IntKind.wrap_i64]; omega
    refine me_run (m := 12) rfl trivial ?_
    repeat w_go kw_rely
    refine Goes.stop (fun w₁ h₁ => ?_)
    replace hF := kw_rely hF h₁
    exact ih (i + 1) _ _ (by omega) hlt' (hI _ _ q hF.1) (p.rely hF.1) (p'.rely hF.1) rfl rfl rfl (by simp)
set_option maxRecDepth 100000 in
set_option maxHeartbeats 8000000 in
/-- TWO LISTS THAT ARE THE SAME -/
theorem items_all {cs : List Frame} (hI : ∀ w w', I w → Rely r w w' → I w') (q : I w) (hN : N = S.length) (h60 : N ≤ 60) (p : PN r w g c S) (p' : PN r w g' c' S)
    (cont : ∀ (s : Array Value) (todo : List Item) (w : World), I w → PN r w g c S → PN r w g' c' S → s.size = 26 → s[4]? = some (.bool true) → ME Try.prog wgL.tWg Post (.chs []) 0 r (G { (base 6).at ⟨s, []⟩ todo with mode := .returning } cs) w) :
    ME Try.prog wgL.tWg Post (.chs []) 0 r (G ((base 6).at ⟨#[.slice g N c, .slice g' N c', undef, undef, undef, undef, undef, undef, undef, undef, undef, undef, undef, undef, undef, undef, undef, undef, undef, undef, undef, undef, undef, undef, undef, undef], []⟩ [.code body6]) cs) w := by
  rw [body6_eq]
  simp only [ri0, ri1, ri3, Try.f6]
  have hF : KW r ((Sg.chs []).iv wgL.tWg) w w := ⟨Rely.refl _ _, trivial⟩
  have HN := Lib.hid hN
  clear hN
  have hnn : ((N : Int) != (N : Int)) = false := by simp
  refine me_run (m := 40) rfl trivial ?_
  repeat w_go kw_rely
  refine Goes.stop (fun w₁ h₁ => ?_)
  replace hF := kw_rely hF h₁
  replace q := hI _ _ q hF.1
  replace p := p.rely hF.1
  replace p' := p'.rely hF.1
  clear h₁ hF
  refine items_loop hI HN.out h60 (fun s w q p p' hs => ?_) N 0 _ _ (by omega) (Nat.zero_le _) q p p' rfl rfl rfl rfl
  obtain ⟨x0, x1, x2, x3, x4, x5, x6, x7, x8, x9, x10, x11, x12, x13, x14, x15, x16, x17, x18, x19, x20, x21, x22, x23, x24, x25, rfl⟩ := arr26 hs
  simp only [ri8, Try.f6]
  have hF : KW r ((Sg.chs []).iv wgL.tWg) w w := ⟨Rely.refl _ _, trivial⟩
  refine me_run (m := 5) rfl trivial ?_
  w_go kw_rely
  w_go kw_rely
  w_go kw_rely
  w_go kw_rely
  w_go kw_rely
  refine Goes.stop (fun w₁ h₁ => ?_)
  replace hF := kw_rely hF h₁
  exact cont _ _ _ (hI _ _ q hF.1) (p.rely hF.1) (p'.rely hF.1) rfl rfl
end
end Go.Proofs.Ytienepcknafddaa
end

section
set_option linter.unusedVariables false
set_option linter.unusedSimpArgs false
set_option linter.unusedVariables false
set_option linter.unusedSimpArgs false
namespace Go.Proofs.Ytienepcknafddaa
open Go Go.RowKit Go.Conc Co Cr SimPlain HeapPlain SymPlain
open Go.ConcM

noncomputable def qHr : Code := match Try.f3.body with | some (.seq _ (.seq _ (.seq _ (.seq _ c)))) => c | _ => .skip
noncomputable def qHc : Code := match Try.f3.body with | some (.seq _ (.seq _ (.seq c _))) => c | _ => .skip
noncomputable def qH : Code := match qHr with | .seq (.seq _ (.block _ (.loop c))) _ => c | _ => .skip
noncomputable def qH1 : Code := match qH with | .seq _ (.seq (.block _ c) _) => c | _ => .skip
noncomputable def rh0 : Array Oper := match Try.f3.body with | some (.seq (.region _ o _) _) => o | _ => #[]
noncomputable def rh1 : Array Oper := match Try.f3.body with | some (.seq _ (.seq (.region _ o _) _)) => o | _ => #[]
noncomputable def rh2 : Array Oper := match qHc with | .seq (.region _ o _) _ => o | _ => #[]
noncomputable def rh3 : Array Oper := match qHc with | .seq _ (.cond _ (.seq (.region _ o _) _) _) => o | _ => #[]
noncomputable def rh4 : Array Oper := match Try.f3.body with | some (.seq _ (.seq _ (.seq _ (.seq (.region _ o _) _)))) => o | _ => #[]
noncomputable def rh5 : Array Oper := match qHr with | .seq (.seq (.region _ o _) _) _ => o | _ => #[]
noncomputable def rh11 : Array Oper := match qHr with | .seq _ (.seq (.region _ o _) _) => o | _ => #[]
noncomputable def rh6 : Array Oper := match qH with | .seq (.seq (.region _ o _) _) _ => o | _ => #[]
noncomputable def rh7 : Array Oper := match qH with | .seq _ (.seq _ (.region _ o _)) => o | _ => #[]
noncomputable def rh8 : Array Oper := match qH1 with | .seq (.region _ o _) _ => o | _ => #[]
noncomputable def rh9 : Array Oper := match qH1 with | .seq _ (.seq (.region _ o _) _) => o | _ => #[]
noncomputable def rh10 : Array Oper := match qH1 with | .seq _ (.seq _ (.cond _ (.seq (.region _ o _) _) _)) => o | _ => #[]
noncomputable def LH : Code := qH
noncomputable def body3 : Code := Try.f3.body.getD .skip
noncomputable def body3b : Code := .seq (.region 4 rh4 false) (.seq (.seq (.region 5 rh5 false) (.block 0 (.loop LH))) (.seq (.region 11 rh11 false) .ret))
theorem body3_eq : body3 = .seq (.region 0 rh0 false) (.seq (.region 1 rh1 false) (.seq (.seq (.region 2 rh2 false) (.cond (.tmp 30) (.seq (.region 3 rh3 false) .ret) .skip)) body3b)) := by kernel_rfl
theorem LH_eq : LH = .seq (.seq (.region 6 rh6 false) (.cond (.tmp 37) .skip (.exit 0))) (.seq (.block 1 (.seq (.region 8 rh8 false) (.seq (.region 9 rh9 true) (.cond (.tmp 56) (.seq (.region 10 rh10 false) .ret) .skip)))) (.region 7 rh7 false)) := by kernel_rfl
theorem loud3 : (Try.prog.funcs[3]?).any (·.norace) = false := by kernel_rfl
theorem rh9_size : rh9.size = 11 := by kernel_rfl
noncomputable def oh (i : Nat) : Oper := rh9.getD i default
theorem oh_at {i : Nat} (h : i < 11) : rh9[i]? = some (oh i) := op_at (by rw [rh9_size]; exact h)
theorem oh_free : [0, 1, 2, 3, 4, 5, 10].all (fun i => (oh i).guard.isNone) = true := by kernel_rfl
theorem oh_held : [6, 7, 8, 9].all (fun i => (oh i).guard == some (5, false)) = true := by kernel_rfl
theorem oh_dst : (List.range 11).all (fun i => (oh i).dst == some (46 + i)) = true := by kernel_rfl
theorem oh_dst' {i : Nat} (h : i < 11) : (oh i).dst = some (46 + i) := by simpa using List.all_eq_true.1 oh_dst i (List.mem_range.2 h)
theorem oh0 : (oh 0).op = .move (.tmp 9) := by kernel_rfl
theorem oh1 : (oh 1).op = .binOp .eql 24 (.tmp 46) (.const .nilIface) 24 := by kernel_rfl
theorem oh2 : (oh 2).op = .move (.tmp 6) := by kernel_rfl
theorem oh3 : (oh 3).op = .binOp .eql 24 (.tmp 48) (.const .nilIface) 24 := by kernel_rfl
theorem oh4 : (oh 4).op = .binOp .neq 4 (.tmp 47) (.tmp 49) 4 := by kernel_rfl
theorem oh5 : (oh 5).op = .move (.tmp 50) := by kernel_rfl
theorem oh6 : (oh 6).op = .move (.tmp 8) := by kernel_rfl
theorem oh7 : (oh 7).op = .move (.tmp 5) := by kernel_rfl
theorem oh8 : (oh 8).op = .call { callee := .value (.func 6), args := #[.tmp 52, .tmp 53], argTypes := #[22, 22] } := by kernel_rfl
theorem oh9 : (oh 9).op = .unOp .not 4 (.tmp 54) := by kernel_rfl
theorem oh10 : (oh 10).op = .pick (.tmp 51) (.const (.bool true)) (.tmp 55) := by kernel_rfl
def deph (i j : Nat) : Prop := ((oh i).after.any fun e => e.on == j && Region.binds .any e) = true
theorem deph1 : deph 1 0 := by unfold deph; kernel_rfl
theorem deph3 : deph 3 2 := by unfold deph; kernel_rfl
theorem deph4 : deph 4 1 ∧ deph 4 3 := ⟨by unfold deph; kernel_rfl, by unfold deph; kernel_rfl⟩
theorem deph5 : deph 5 4 := by unfold deph; kernel_rfl
theorem deph6 : deph 6 5 := by unfold deph; kernel_rfl
theorem deph7 : deph 7 5 := by unfold deph; kernel_rfl
theorem deph8 : deph 8 6 ∧ deph 8 7 ∧ deph 8 5 := ⟨by unfold deph; kernel_rfl, by unfold deph; kernel_rfl, by unfold deph; kernel_rfl⟩
theorem deph9 : deph 9 8 ∧ deph 9 5 := ⟨by unfold deph; kernel_rfl, by unfold deph; kernel_rfl⟩
theorem deph10 : deph 10 5 ∧ deph 10 9 := ⟨by unfold deph; kernel_rfl, by unfold deph; kernel_rfl⟩
theorem allh (mixed : Bool) (t i : Nat) (hi : i < rh9.size) : i ∈ Region.schedule mixed rh9 t :=
  schedule_all (o1 := List.range 11) (o2 := List.range 11) (by kernel_rfl) (by kernel_rfl) (by rw [rh9_size]; decide) (by rw [rh9_size]; decide) (by rw [rh9_size]; decide) (by rw [rh9_size]; decide) (by kernel_rfl) mixed t hi
section
variable {ρ : Operand → Value} {o : Oper} {x y : Operand}
theorem eqlI {T : TypeId} {n : Int} (hop : o.op = .binOp .eql 24 x (.const .nilIface) 24) (h0 : ρ (.const .nilIface) = .nilIface) (hx : ρ x = errV T n) (w : World) : (execOp ρ o).run Try.prog w = .ok (.value (.bool (decide (n = 0)))) w ∧ (execOp ρ o).events Try.prog w #[] = #[] := by
  have e1 : ∀ d, (Op.equalIn (d + 1) 24 .nilIface .nilIface).events Try.prog w #[] = #[] := fun d => by simp [Op.equalIn, run_underlying errTy]
  have e1' : (Op.equal 24 .nilIface .nilIface).events Try.prog w #[] = #[] := e1 9999
  have e2 : ∀ d u x, (Op.equalIn (d + 1) 24 (.iface u x) .nilIface).events Try.prog w #[] = #[] := fun d u x => by simp [Op.equalIn, run_underlying errTy]
  have e2' : ∀ u x, (Op.equal 24 (.iface u x) .nilIface).events Try.prog w #[] = #[] := fun u x => e2 9999 u x
  unfold execOp; simp only [hop, hx, h0]
  by_cases hn : n = 0
  · subst hn
    rw [errV_ok]
    constructor
    · simp [go_sem]
    · simp [go_sem, binOp, e1', run_equal_nil_nil w 24 errTy]
  · rw [errV_bad hn]
    constructor
    · simp [go_sem, hn]
    · simp [go_sem, binOp, e2', run_equal_held_nil w 24 _ _ errTy]
theorem neqB {p : Bool} (hop : o.op = .binOp .neq 4 x y 4) (hx : ρ x = .bool p) (hy : ρ y = .bool p) (w : World) : (execOp ρ o).run Try.prog w = .ok (.value (.bool false)) w ∧ (execOp ρ o).events Try.prog w #[] = #[] := by
  have e1 : ∀ d, (Op.equalIn (d + 1) 4 (.bool p) (.bool p)).events Try.prog w #[] = #[] := fun d => by simp [Op.equalIn, run_underlying Try.underlying4]
  have e1' : (Op.equal 4 (.bool p) (.bool p)).events Try.prog w #[] = #[] := e1 9999
  have e2 : ∀ d, (Op.equalIn (d + 1) 4 (.bool p) (.bool p)).run Try.prog w = .ok true w := fun d => by simp [Op.equalIn, run_underlying Try.underlying4]
  have e2' : (Op.equal 4 (.bool p) (.bool p)).run Try.prog w = .ok true w := e2 9999
  unfold execOp; simp only [hop, hx, hy]
  constructor
  · simp [go_sem]
  · simp [go_sem, binOp, e1', e2']
theorem notB (hop : o.op = .unOp .not 4 x) (hx : ρ x = .bool true) (w : World) : (execOp ρ o).run Try.prog w = .ok (.value (.bool false)) w ∧ (execOp ρ o).events Try.prog w #[] = #[] := by
  unfold execOp; simp only [hop, hx]; simp [go_sem]
theorem pickB {z : Operand} (hop : o.op = .pick x z y) (hx : ρ x = .bool false) (hy : ρ y = .bool false) (w : World) : (execOp ρ o).run Try.prog w = .ok (.value (.bool false)) w ∧ (execOp ρ o).events Try.prog w #[] = #[] := by
  unfold execOp; simp only [hop, hx, hy]; simp [asBool]
end
end Go.Proofs.Ytienepcknafddaa
end

section
set_option linter.unusedVariables false
set_option linter.unusedSimpArgs false
set_option linter.unusedVariables false
set_option linter.unusedSimpArgs false
namespace Go.Proofs.Ytienepcknafddaa
open Go Go.RowKit Go.Conc Co Cr SimPlain HeapPlain SymPlain
open Go.ConcM

section
variable {Post : Value → World → Prop} {r : Rts} {w w' : World} {c c' N : Nat} {n : Int} {g g' : Option Addr} {S : List Ev} {I : World → Prop}
/-- what has been computed -/
def valh (g g' : Option Addr) (c c' N : Nat) (n : Int) : Nat → Value
  | 0 => errV 34 n
  | 1 => .bool (decide (n = 0))
  | 2 => errV 34 n
  | 3 => .bool (decide (n = 0))
  | 4 => .bool false
  | 5 => .bool false
  | 6 => .slice g N c
  | 7 => .slice g' N c'
  | 8 => .bool true
  | 9 => .bool false
  | _ => .bool false
structure TH (g g' : Option Addr) (c c' N : Nat) (n : Int) (t0 s : Array Value) (l : List Nat) : Prop where
  size : s.size = 57
  same : ∀ j, j < 46 → s[j]? = t0[j]?
  val : ∀ j, j < 11 → j ∉ l → s[46 + j]? = some (valh g g' c c' N n j)
theorem TH.next {t0 s : Array Value} {j : Nat} {l : List Nat} (h : TH g g' c c' N n t0 s (j :: l)) (hj : j < 11) : TH g g' c c' N n t0 (s.setIfInBounds (46 + j) (valh g g' c c' N n j)) l := by
  refine ⟨by simpa using h.size, fun x hx => by rw [Array.getElem?_setIfInBounds_ne (by omega)]; exact h.same x hx, fun x hx hn => ?_⟩
  by_cases e : x = j
  · subst e
    rw [Array.getElem?_setIfInBounds_self_of_lt (by rw [h.size]; omega)]
  · rw [Array.getElem?_setIfInBounds_ne (by omega)]
    exact h.val x hx (notin_cons hn e)
theorem free_wanted {i : Nat} (hi : i ∈ [0, 1, 2, 3, 4, 5, 10]) (y : Nat → Option Bool) : Region.wanted (oh i) y = true :=
  wanted_free (Option.isNone_iff_eq_none.1 (List.all_eq_true.1 oh_free i hi)) y
theorem held_wanted {i : Nat} (hi : i ∈ [6, 7, 8, 9]) {s : Array Value} (h5 : s[51]? = some (.bool false)) : Region.wanted (oh i) (yielded rh9 s) = true := by
  have hg : (oh i).guard = some (5, false) := by simpa using List.all_eq_true.1 oh_held i hi
  have hy : yielded rh9 s 5 = some false := by
    unfold yielded
    rw [oh_at (by omega)]
    simp only [Option.bind_some, oh_dst' (show 5 < 11 by omega), h5]
  unfold Region.wanted
  rw [hg]
  simp [hy]
theorem h_call {s : Array Value} {l : List Nat} {k0 : List Item} {cs : List Frame} (hI : ∀ w w', I w → Rely r w w' → I w') (q : I w) (hN : N = S.length) (h60 : N ≤ 60) (p : PN r w g c S) (p' : PN r w g' c' S)
    (v6 : (⟨s, []⟩ : _root_.Go.Act).eval (.tmp 52) = .slice g N c) (v7 : (⟨s, []⟩ : _root_.Go.Act).eval (.tmp 53) = .slice g' N c') (hw : Region.wanted (oh 8) (yielded rh9 s) = true)
    (cont : ∀ w, I w → PN r w g c S → PN r w g' c' S → ME Try.prog wgL.tWg Post (.chs []) 0 r (G ((base 3).at ((⟨s, []⟩ : _root_.Go.Act).put (oh 8).dst (.bool true)) (.inRegion rh9 l :: k0)) cs) w) :
    ME Try.prog wgL.tWg Post (.chs []) 0 r (G ((base 3).at ⟨s, []⟩ (.inRegion rh9 (8 :: l) :: k0)) cs) w := by
  refine me_call (c := body6) (oh_at (by omega)) hw (by decide) oh8 Try.func6 names6 (by kernel_rfl) ?_
  have e : (#[.tmp 52, .tmp 53] : Array Operand).map (⟨s, []⟩ : _root_.Go.Act).eval = #[.slice g N c, .slice g' N c'] := by simp only [List.map_toArray, List.map_cons, List.map_nil, v6, v7]
  rw [e, Try.ntmps6]
  simp only [List.size_toArray, List.length_cons, List.length_nil, Nat.reduceAdd, Nat.reduceSub, Array.replicate_succ, Array.replicate_zero, List.push_toArray, List.append_toArray, List.nil_append, List.cons_append]
  refine items_all (I := I) hI q hN h60 p p' fun s' todo w2 q2 p2 p2' hs' h4 => ?_
  refine me_leave1 rfl rfl Try.func6 rfl ?_
  rw [oh_at (show 8 < 11 by omega)]
  have e4 : s'.getD 4 undef = .bool true := by
    rw [Array.getD_eq_getD_getElem?, h4]
    rfl
  show ME _ _ _ _ _ _ (G ((base 3).at ((⟨s, []⟩ : _root_.Go.Act).put (oh 8).dst (s'.getD 4 undef)) _) _) _
  rw [e4]
  exact cont w2 q2 p2 p2'
set_option maxRecDepth 100000 in
set_option maxHeartbeats 1000000 in
theorem h_ops {t0 : Array Value} {k0 : List Item} {cs : List Frame} (hI : ∀ w w', I w → Rely r w w' → I w') (hN : N = S.length) (h60 : N ≤ 60) (t9 : t0[9]? = some (errV 34 n)) (t6 : t0[6]? = some (errV 34 n)) (t8 : t0[8]? = some (.slice g N c)) (t5 : t0[5]? = some (.slice g' N c'))
    (cont : ∀ (s : Array Value) (w : World), I w → PN r w g c S → PN r w g' c' S → s.size = 57 → (∀ j, j < 46 → s[j]? = t0[j]?) → s[56]? = some (.bool false) → ME Try.prog wgL.tWg Post (.chs []) 0 r (G ((base 3).at ⟨s, []⟩ (.inRegion rh9 [] :: k0)) cs) w) :
    ∀ (l : List Nat) (s : Array Value) (w : World), OrdInv rh9 l → I w → PN r w g c S → PN r w g' c' S → TH g g' c c' N n t0 s l → ME Try.prog wgL.tWg Post (.chs []) 0 r (G ((base 3).at ⟨s, []⟩ (.inRegion rh9 l :: k0)) cs) w
  | [], s, w, _, q, p, p', hT => cont s w q p p' hT.size hT.same (hT.val 10 (by omega) (by simp))
  | j :: l, s, w, hO, q, p, p', hT => by
    have hj : j < 11 := by have := hO.lt j (by simp); rwa [rh9_size] at this
    have go : ∀ x, x < 11 → deph j x → s[46 + x]? = some (valh g g' c c' N n x) := fun x hx hd => hT.val x hx (hO.done' (oh_at hj) hd)
    have ih := fun w q p p' => h_ops hI hN h60 t9 t6 t8 t5 cont l _ w hO.tail q p p' (hT.next hj)
    have hdst := oh_dst' hj
    have key : ∀ x, x = valh g g' c c' N n j → ∀ w, I w → PN r w g c S → PN r w g' c' S → ME Try.prog wgL.tWg Post (.chs []) 0 r (G ((base 3).at ((⟨s, []⟩ : _root_.Go.Act).put (oh j).dst x) (.inRegion rh9 l :: k0)) cs) w := fun x e w q p p' => by
      rw [e, hdst]; exact ih w q p p'
    have s9 := (hT.same 9 (by omega)).trans t9
    have s6 := (hT.same 6 (by omega)).trans t6
    have s8 := (hT.same 8 (by omega)).trans t8
    have s5 := (hT.same 5 (by omega)).trans t5
    match j, hj, go, key with
    | 0, hj, go, key => exact me_op (oh_at hj) (free_wanted (by simp) _) (by decide) loud3 (mv1 oh0 (ev_tmp s9)) (key _ rfl _ q p p')
    | 1, hj, go, key => exact me_op (oh_at hj) (free_wanted (by simp) _) (by decide) loud3 (eqlI oh1 rfl (ev_tmp (go 0 (by omega) deph1))) (key _ rfl _ q p p')
    | 2, hj, go, key => exact me_op (oh_at hj) (free_wanted (by simp) _) (by decide) loud3 (mv1 oh2 (ev_tmp s6)) (key _ rfl _ q p p')
    | 3, hj, go, key => exact me_op (oh_at hj) (free_wanted (by simp) _) (by decide) loud3 (eqlI oh3 rfl (ev_tmp (go 2 (by omega) deph3))) (key _ rfl _ q p p')
    | 4, hj, go, key => exact me_op (oh_at hj) (free_wanted (by simp) _) (by decide) loud3 (neqB oh4 (ev_tmp (go 1 (by omega) deph4.1)) (ev_tmp (go 3 (by omega) deph4.2))) (key _ rfl _ q p p')
    | 5, hj, go, key => exact me_op (oh_at hj) (free_wanted (by simp) _) (by decide) loud3 (mv1 oh5 (ev_tmp (go 4 (by omega) deph5))) (key _ rfl _ q p p')
    | 6, hj, go, key => exact me_op (oh_at hj) (held_wanted (by simp) (go 5 (by omega) deph6)) (by decide) loud3 (mv1 oh6 (ev_tmp s8)) (key _ rfl _ q p p')
    | 7, hj, go, key => exact me_op (oh_at hj) (held_wanted (by simp) (go 5 (by omega) deph7)) (by decide) loud3 (mv1 oh7 (ev_tmp s5)) (key _ rfl _ q p p')
    | 8, hj, go, key =>
      have v6 : (⟨s, []⟩ : _root_.Go.Act).eval (.tmp 52) = .slice g N c := ev_tmp (go 6 (by omega) deph8.1)
      have v7 : (⟨s, []⟩ : _root_.Go.Act).eval (.tmp 53) = .slice g' N c' := ev_tmp (go 7 (by omega) deph8.2.1)
      exact h_call hI q hN h60 p p' v6 v7 (held_wanted (by simp) (go 5 (by omega) deph8.2.2)) fun w2 q2 p2 p2' => key _ rfl _ q2 p2 p2'
    | 9, hj, go, key => exact me_op (oh_at hj) (held_wanted (by simp) (go 5 (by omega) deph9.2)) (by decide) loud3 (notB oh9 (ev_tmp (go 8 (by omega) deph9.1))) (key _ rfl _ q p p')
    | 10, hj, go, key => exact me_op (oh_at hj) (free_wanted (by simp) _) (by decide) loud3 (pickB oh10 (ev_tmp (go 5 (by omega) deph10.1)) (ev_tmp (go 9 (by omega) deph10.2))) (key _ rfl _ q p p')
end
end Go.Proofs.Ytienepcknafddaa
end

section
set_option linter.unusedVariables false
set_option linter.unusedSimpArgs false
set_option linter.unusedVariables false
set_option linter.unusedSimpArgs false
namespace Go.Proofs.Ytienepcknafddaa
open Go Go.RowKit Go.Conc Co Cr SimPlain HeapPlain SymPlain
open Go.ConcM

/-- the items of the law's argument, as they stood -/
structure ArgF (W0 : Past) (A : Option Addr) (b off cap : Nat) (l : List Ev) : Prop where
  hA : A = some ⟨b, off, none⟩ ∨ (A = none ∧ l = [] ∧ cap = 0)
  hE : EvA W0.w A l
  rb : A = some ⟨b, off, none⟩ → W0.K b ∧ CellsAt W0.w b ∧ Try.prog.globals.size ≤ b
  hlc : l.length ≤ cap
  big : l.length ≤ 9223372036854775807
theorem ArgF.cq {n0 : Nat} {W0 : Past} {A : Option Addr} {b off cap : Nat} {l : List Ev} (h : ArgF W0 A b off cap l) (gw : Try.prog.globals.size ≤ n0) {r : Rts} {w : World} (hH : Hold n0 W0 r w) : CqF n0 W0 r w A b off cap l := by
  refine ⟨hH, h.hA, ?_, fun e => ?_, h.hlc, h.big, Nat.le_trans gw hH.le⟩
  · rcases h.hE with e | ⟨b', o', e, h1, h2⟩
    · exact .inl e
    · rcases h.hA with e' | ⟨e', _⟩
      · have hb := h.rb e'
        rw [e] at e'
        simp only [Option.some.injEq, Addr.mk.injEq, and_true] at e'
        obtain ⟨rfl, rfl⟩ := e'
        have key : ∀ x : Addr, x.block = b' → w.cell? x = W0.w.cell? x := fun x hx => World.cell?_of_block (by rw [hx]; exact hH.keep.blk b' hb.1)
        exact .inr ⟨b', o', e, Nat.lt_of_lt_of_le (hH.lt b' hb.1) hH.le, fun i hi => ⟨(key _ rfl).trans (h2 i hi).1, (key _ rfl).trans (h2 i hi).2⟩⟩
      · rw [e] at e'; cases e'
  · obtain ⟨hK, ⟨x, t, fr, e1⟩, h2⟩ := h.rb e
    exact ⟨⟨hH.oldo b hK, fun a ha => hH.old a (by rw [ha]; exact hK)⟩, ⟨x, t, fr, (hH.keep.blk b hK).trans e1⟩, h2⟩
section
variable {ρ : Operand → Value} {o : Oper} {x y : Operand}
theorem bs22 {a b c d : Int} (hop : o.op = .buildSlice 22 2 #[(0, x), (1, y)]) (hx : ρ x = .agg #[.int .i64 a, .int .i64 b]) (hy : ρ y = .agg #[.int .i64 c, .int .i64 d]) (w : World) : (execOp ρ o).run Try.prog w = .ok (.value (.slice (some ⟨w.heap.size, 0, none⟩) 2 2)) (w.alloc (.cells #[.int .i64 a, .int .i64 b, .int .i64 c, .int .i64 d] 28 (0, 0))) ∧ (execOp ρ o).events Try.prog w #[] = #[] := by
  unfold execOp; simp only [hop]; simp [go_sem, hx, hy]
end
def factL : List Ev := [{ t := 5, s := 0, id := 0 }, { t := 3, s := 1, id := 0 }]
theorem fact_ok : chkI factL = 0 := by decide
theorem fact_srt {S : List Ev} (h : S.Perm factL) (hs : S.Pairwise SimPlain.Lt) : S = [{ t := 3, s := 1, id := 0 }, { t := 5, s := 0, id := 0 }] :=
  sorted_unique (h.trans (List.Perm.swap _ _ _)) hs (by decide)
section
variable {Post : Value → World → Prop} {r : Rts} {w : World} {n0 : Nat} {W0 : Past} {v0 : Value}
set_option maxRecDepth 100000 in
set_option maxHeartbeats 8000000 in
theorem hands_head (hold : Hold n0 W0 r w) (gw : Try.prog.globals.size ≤ w.heap.size)
    (cont : ∀ (t : Array Value) (r : Rts) (w : World), Hold n0 W0 r w → t.size = 57 → t[0]? = some v0 → ME Try.prog wgL.tWg Post (.chs []) 0 r (G ((base 3).at ⟨t, []⟩ [.code body3b]) []) w) :
    ME Try.prog wgL.tWg Post (.chs []) 0 r (G ((base 3).at ⟨#[v0, undef, undef, undef, undef, undef, undef, undef, undef, undef, undef, undef, undef, undef, undef, undef, undef, undef, undef, undef, undef, undef, undef, undef, undef, undef, undef, undef, undef, undef, undef, undef, undef, undef, undef, undef, undef, undef, undef, undef, undef, undef, undef, undef, undef, undef, undef, undef, undef, undef, undef, undef, undef, undef, undef, undef, undef], []⟩ [.code body3]) []) w := by
  rw [body3_eq]
  simp only [rh0, rh1, Try.f3]
  have hF : KW r ((Sg.chs []).iv wgL.tWg) w w := ⟨Rely.refl _ _, trivial⟩
  refine me_run (m := 8) rfl trivial ?_
  repeat w_go kw_rely
  refine Goes.stop (fun w₁ h₁ => ?_)
  replace hF := kw_rely hF h₁
  have hq := hF.1
  clear h₁ hF
  refine me_al (f := fun x => .slice (some ⟨x, 0, none⟩) 2 2) rfl rfl (by decide) loud3 (bs22 (a := 5) (b := 0) (c := 3) (d := 0) rfl rfl rfl) fun wa ha _ => ?_
  walk_nrm
  have hcell : ∀ i v, (#[.int .i64 5, .int .i64 0, .int .i64 3, .int .i64 0] : Array Value)[i]? = some v → (wa.alloc (.cells #[.int .i64 5, .int .i64 0, .int .i64 3, .int .i64 0] 28 (0, 0))).cell? ⟨wa.heap.size, i, none⟩ = some v := fun i v hv => by
    unfold World.cell?; simp only [alloc_here]; exact hv
  have hr := rely_alloc (hq.trans ha) (.cells #[.int .i64 5, .int .i64 0, .int .i64 3, .int .i64 0] 28 (0, 0))
  have FQ : CqF n0 W0 (r.new wa.heap.size (wa.heap.size + 1)) (wa.alloc (.cells #[.int .i64 5, .int .i64 0, .int .i64 3, .int .i64 0] 28 (0, 0))) (some ⟨wa.heap.size, 0, none⟩) wa.heap.size 0 2 factL :=
    ⟨Hold.new (hold.rely hr) _ _, .inl rfl, .inr ⟨wa.heap.size, 0, rfl, by simp, fun i hi => by
      match i, hi with
      | 0, _ => exact ⟨hcell 0 _ rfl, hcell 1 _ rfl⟩
      | 1, _ => exact ⟨hcell 2 _ rfl, hcell 3 _ rfl⟩⟩, fun _ => ⟨⟨new_rd_obj, fun a ha => new_rd_cell ha⟩, ⟨_, _, _, alloc_here _ _⟩, Nat.le_trans gw (hq.trans ha).size⟩, by decide, by decide, Nat.le_trans gw hr.size⟩
  generalize wa.alloc (.cells #[.int .i64 5, .int .i64 0, .int .i64 3, .int .i64 0] 28 (0, 0)) = w2 at FQ
  generalize r.new wa.heap.size (wa.heap.size + 1) = r2 at FQ
  generalize wa.heap.size = Bf at FQ
  clear hq ha hcell hr hold gw
  refine me_call (c := body4) rfl rfl (by decide) rfl Try.func4 names4 (by kernel_rfl) ?_
  walk_nrmf Try.ntmps4
  refine crew_sort (l := factL) (h := 2) (A := some ⟨Bf, 0, none⟩) (b := Bf) (off := 0) (cap := 2) FQ (by omega) (by omega) (by simp [factL, Bef]) (fun t todo r w hbad => absurd fact_ok hbad) fun t todo r w g c S _ hold hp hperm hs hsz h4 h5 => ?_
  obtain rfl := fact_srt hperm hs
  obtain ⟨b, rfl, _, hb⟩ := hp.pb.off (by simp)
  have hb0 := (hb 0 (by simp)).1
  have hrd := (hp.rd (by simp) b rfl).2
  clear hb hperm hs FQ
  refine me_leave2 rfl rfl Try.func4 rfl ?_
  walk_nrm
  simp only [h4, h5, Option.getD_some, List.length_cons, List.length_nil, Nat.reduceAdd]
  clear h4 h5 hsz hp
  simp only [rh2, qHc, Try.f3]
  have hev := ev_neq_nil
  have hF : KW r ((Sg.chs []).iv wgL.tWg) w w := ⟨Rely.refl _ _, trivial⟩
  refine me_run (m := 40) rfl trivial ?_
  repeat w_go kw_rely
  refine Goes.stop (fun w₁ h₁ => ?_)
  replace hF := kw_rely hF h₁
  replace hold := hold.rely hF.1
  replace hb0 := hF.1.cell hb0 (hrd _ rfl)
  clear h₁ hF
  refine me_ld rfl rfl (by decide) loud3 rfl (ld3 rfl rfl) hb0 (hrd _ rfl) ?_
  walk_nrm
  have hF : KW r ((Sg.chs []).iv wgL.tWg) w₁ w₁ := ⟨Rely.refl _ _, trivial⟩
  refine me_run (m := 5) rfl trivial ?_
  w_go kw_rely
  w_go kw_rely
  w_go kw_rely
  w_go kw_rely
  w_go kw_rely
  refine Goes.stop (fun w₁ h₁ => ?_)
  replace hF := kw_rely hF h₁
  exact cont _ r _ (hold.rely hF.1) rfl rfl
end
end Go.Proofs.Ytienepcknafddaa
end

section
set_option linter.unusedVariables false
set_option linter.unusedSimpArgs false
set_option linter.unusedVariables false
set_option linter.unusedSimpArgs false
namespace Go.Proofs.Ytienepcknafddaa
open Go Go.RowKit Go.Conc Co Cr SimPlain HeapPlain SymPlain
open Go.ConcM

/-- what the region leaves -/
def RelH (A : Option Addr) (cap : Nat) (l : List Ev) (t : Array Value) (w : World) : Prop := t.size = 57 ∧ t[0]? = some (.slice A l.length cap) ∧ ∃ g c S, PB w g c S ∧ t[5]? = some (.slice g S.length c) ∧ t[6]? = some (errV 34 (chkI l)) ∧ (chkI l = 0 → S.Perm l ∧ S.Pairwise SimPlain.Lt) ∧ (chkI l ≠ 0 → S = [] ∧ g = none ∧ c = 0)
theorem VR.slA_eq {ok : FuncId → Prop} {ρ0 ρ : Ren} {A : Option Addr} {b off nn cc : Nat} {v : Value} (hx : Ext ρ0 ρ) (hA : A = some ⟨b, off, none⟩ ∨ A = none) (hd : A = some ⟨b, off, none⟩ → ρ0.dom b) (hto : ρ0.to b = b) (h : VR ok ρ (.slice A nn cc) v) : v = .slice A nn cc := by
  rcases hA with e | e
  · have hb := hd e
    subst e
    cases h with
    | sl _ _ ha =>
      obtain ⟨_, rfl⟩ := ha
      simp only [(hx.at_ b hb).2, hto]
  · subst e
    cases h
    rfl
theorem relH_carried {ρ0 : Ren} {A : Option Addr} {b off cap : Nat} {l : List Ev} (hA : A = some ⟨b, off, none⟩ ∨ A = none) (hd : A = some ⟨b, off, none⟩ → ρ0.dom b) (hto : ρ0.to b = b) : Carried cwL Try.prog ρ0 (RelH A cap l) := by
  rintro ρ t t' w w' hx _ ht hw ⟨hs, e0, g, c, S, hp, e5, e6, k1, k2⟩
  obtain ⟨v0, f0, r0⟩ := ht.get e0
  obtain ⟨v5, f5, r5⟩ := ht.get e5
  obtain ⟨v6, f6, r6⟩ := ht.get e6
  rw [VR.slA_eq hx hA hd hto r0] at f0
  rw [VR.errV_eq r6] at f6
  obtain ⟨g', rfl, hp', hd'⟩ := hp.carry hw r5
  refine ⟨by rw [← ht.1]; exact hs, f0, g', c, S, hp', f5, f6, k1, fun h => ?_⟩
  obtain ⟨h1, h2, h3⟩ := k2 h
  refine ⟨h1, ?_, h3⟩
  subst h2
  cases r5
  rfl
set_option maxRecDepth 100000 in
set_option maxHeartbeats 4000000 in
theorem hsort_wp (l : List Ev) (A : Option Addr) (b off cap : Nat) (x1 x2 x3 x4 x5 x6 x7 x8 x9 x10 x11 x12 x13 x14 x15 x16 x17 x18 x19 x20 x21 x22 x23 x24 x25 x26 x27 x28 x29 x30 x31 x32 x33 x34 x35 x36 x37 x38 x39 x40 x41 x42 x43 x44 x45 x46 x47 x48 x49 x50 x51 x52 x53 x54 x55 x56 : Value) (w : World) (hx : EvA w A l) (hA : A = some ⟨b, off, none⟩ ∨ (A = none ∧ l = [] ∧ cap = 0)) (hlen : l.length ≤ 9223372036854775807) (hbef : l.Pairwise Bef) :
    (Code.region 4 rh4 false).wp Try.prog (fun e a w' => e = .normal ∧ a.defers = [] ∧ RelH A cap l a.tmps w') ⟨#[.slice A l.length cap, x1, x2, x3, x4, x5, x6, x7, x8, x9, x10, x11, x12, x13, x14, x15, x16, x17, x18, x19, x20, x21, x22, x23, x24, x25, x26, x27, x28, x29, x30, x31, x32, x33, x34, x35, x36, x37, x38, x39, x40, x41, x42, x43, x44, x45, x46, x47, x48, x49, x50, x51, x52, x53, x54, x55, x56], []⟩ w := by
  have HS : ∀ w1 : World, EvA w1 A l → Calls Try.prog 5 #[.slice A l.length cap] w1 fun e w' => ∃ g c S, e = .returned (.tuple #[.slice g S.length c, errV 34 (chkI l)]) ∧ PB w' g c S ∧ (chkI l = 0 → S.Perm l ∧ S.Pairwise SimPlain.Lt) ∧ (chkI l ≠ 0 → S = [] ∧ g = none ∧ c = 0) := fun w1 hx1 => by
    by_cases hk : chkI l = 0
    · refine (Sort_any l A cap w1 hx1 ?_ hk hbef).mono ?_
      · rcases hA with e | ⟨e, _, e2⟩
        · exact .inr ⟨b, off, e⟩
        · exact .inl ⟨e, e2⟩
      · rintro e w' ⟨g, c, S, rfl, hs, _⟩
        exact ⟨g, c, S, by rw [hk]; rfl, hs.pb, fun _ => ⟨hs.perm, hs.lt⟩, fun h => absurd hk h⟩
    · refine (Sort_bad l A cap w1 hx1 hlen hk).mono ?_
      rintro e w' ⟨rfl, _⟩
      exact ⟨none, 0, [], rfl, PB.mk' (.inl ⟨rfl, rfl⟩) (Nat.le_refl _) (fun b e => by cases e) (fun h => absurd rfl h), fun h => absurd h hk, fun _ => ⟨rfl, rfl, rfl⟩⟩
  have HS1 := Lib.hid (HS w hx)
  clear HS hx
  simp only [rh4, Try.f3]
  generalize hN : l.length = N at *
  generalize hK : chkI l = kk at *
  have HN := Lib.hid hN
  have HK := Lib.hid hK
  clear hN hK
  go_wp2_with fail
  refine HS1.out.mono ?_
  rintro e w2 ⟨g, c, S, rfl, h1, h2, h3⟩
  have H1 := Lib.hid h1
  have H2 := Lib.hid h2
  have H3 := Lib.hid h3
  clear h1 h2 h3
  go_wp2
  obtain rfl := HN.out
  obtain rfl := HK.out
  exact ⟨rfl, rfl, g, c, S, H1.out, rfl, rfl, H2.out, H3.out⟩
end Go.Proofs.Ytienepcknafddaa
end
