/- WALK: ricksteadsame.Items in company, from its call to its return. -/
import Derived.Test.YtienepcknafddaaDoorM31
section
set_option linter.unusedVariables false
set_option linter.unusedSimpArgs false
set_option linter.unusedVariables false
set_option linter.unusedSimpArgs false
namespace Go.Proofs.YtienepcknafddaaDoor
open Go Go.RowKit Go.Conc Co Cr SimPlain HeapPlain SymPlain
open Go.ConcM

theorem arr26 {t : Array Value} (h : t.size = 26) : ∃ x0 x1 x2 x3 x4 x5 x6 x7 x8 x9 x10 x11 x12 x13 x14 x15 x16 x17 x18 x19 x20 x21 x22 x23 x24 x25 : Value, t = #[x0, x1, x2, x3, x4, x5, x6, x7, x8, x9, x10, x11, x12, x13, x14, x15, x16, x17, x18, x19, x20, x21, x22, x23, x24, x25] := by
  obtain ⟨l⟩ := t
  have k0 : l.length = 26 := h
  clear h
  obtain ⟨x0, l1, rfl, k1⟩ := cons_of k0
  obtain ⟨x1, l2, rfl, k2⟩ := cons_of k1
  obtain ⟨x2, l3, rfl, k3⟩ := cons_of k2
  obtain ⟨x3, l4, rfl, k4⟩ := cons_of k3
  obtain ⟨x4, l5, rfl, k5⟩ := cons_of k4
  obtain ⟨x5, l6, rfl, k6⟩ := cons_of k5
  obtain ⟨x6, l7, rfl, k7⟩ := cons_of k6
  obtain ⟨x7, l8, rfl, k8⟩ := cons_of k7
  obtain ⟨x8, l9, rfl, k9⟩ := cons_of k8
  obtain ⟨x9, l10, rfl, k10⟩ := cons_of k9
  obtain ⟨x10, l11, rfl, k11⟩ := cons_of k10
  obtain ⟨x11, l12, rfl, k12⟩ := cons_of k11
  obtain ⟨x12, l13, rfl, k13⟩ := cons_of k12
  obtain ⟨x13, l14, rfl, k14⟩ := cons_of k13
  obtain ⟨x14, l15, rfl, k15⟩ := cons_of k14
  obtain ⟨x15, l16, rfl, k16⟩ := cons_of k15
  obtain ⟨x16, l17, rfl, k17⟩ := cons_of k16
  obtain ⟨x17, l18, rfl, k18⟩ := cons_of k17
  obtain ⟨x18, l19, rfl, k19⟩ := cons_of k18
  obtain ⟨x19, l20, rfl, k20⟩ := cons_of k19
  obtain ⟨x20, l21, rfl, k21⟩ := cons_of k20
  obtain ⟨x21, l22, rfl, k22⟩ := cons_of k21
  obtain ⟨x22, l23, rfl, k23⟩ := cons_of k22
  obtain ⟨x23, l24, rfl, k24⟩ := cons_of k23
  obtain ⟨x24, l25, rfl, k25⟩ := cons_of k24
  obtain ⟨x25, l26, rfl, k26⟩ := cons_of k25
  obtain rfl := List.eq_nil_of_length_eq_zero k26
  exact ⟨x0, x1, x2, x3, x4, x5, x6, x7, x8, x9, x10, x11, x12, x13, x14, x15, x16, x17, x18, x19, x20, x21, x22, x23, x24, x25, rfl⟩
noncomputable def qI0 (x : Unit) : Code := match Tryd.f8.body with | some (.seq _ (.seq _ c)) => c | _ => .skip
noncomputable def ri0 : Array Oper := match Tryd.f8.body with | some (.seq (.region _ o _) _) => o | _ => #[]
noncomputable def ri1 : Array Oper := match Tryd.f8.body with | some (.seq _ (.seq (.seq (.region _ o _) _) _)) => o | _ => #[]
noncomputable def ri2 : Array Oper := match Tryd.f8.body with | some (.seq _ (.seq (.seq _ (.cond _ (.seq (.region _ o _) _) _)) _)) => o | _ => #[]
noncomputable def ri3 : Array Oper := match Tryd.f8.body with | some (.seq _ (.seq _ (.seq (.seq (.region _ o _) _) _))) => o | _ => #[]
noncomputable def ri8 : Array Oper := match Tryd.f8.body with | some (.seq _ (.seq _ (.seq _ (.seq (.region _ o _) _)))) => o | _ => #[]
noncomputable def ri4 : Array Oper := match qI with | .seq (.seq (.region _ o _) _) _ => o | _ => #[]
noncomputable def ri5 : Array Oper := match qI with | .seq _ (.seq _ (.region _ o _)) => o | _ => #[]
noncomputable def ri7 : Array Oper := match qI with | .seq _ (.seq (.block _ (.seq _ (.cond _ (.seq (.region _ o _) _) _))) _) => o | _ => #[]
noncomputable def LI : Code := qI
noncomputable def body6 : Code := Tryd.f8.body.getD .skip
theorem body6_eq : body6 = .seq (.region 0 ri0 false) (.seq (.seq (.region 1 ri1 false) (.cond (.tmp 10) (.seq (.region 2 ri2 false) .ret) .skip)) (.seq (.seq (.region 3 ri3 false) (.block 0 (.loop LI))) (.seq (.region 8 ri8 false) .ret))) := by kernel_rfl
theorem LI_eq : LI = .seq (.seq (.region 4 ri4 false) (.cond (.tmp 14) .skip (.exit 0))) (.seq (.block 1 (.seq (.region 6 ri6 true) (.cond (.tmp 25) (.seq (.region 7 ri7 false) .ret) .skip))) (.region 5 ri5 false)) := by kernel_rfl
theorem stepLI {m : Bool} {b : Frame} {a : _root_.Go.Act} {k : List Item} {cs : List Frame} {w : World} : stepG Tryd.prog m (G (b.at a (.code LI :: k)) cs) w = .go (G (b.at a (.code (.seq (.region 4 ri4 false) (.cond (.tmp 14) .skip (.exit 0))) :: .code (.seq (.block 1 (.seq (.region 6 ri6 true) (.cond (.tmp 25) (.seq (.region 7 ri7 false) .ret) .skip))) (.region 5 ri5 false)) :: k)) cs) w #[] := by
  rw [LI_eq]; exact stepG_seq
theorem names6 : (Tryd.f8.name == "runtime.NumGoroutine") = false := by kernel_rfl
/-- a list that may be read, if it is not empty -/
def PN (r : Rts) (w : World) (g : Option Addr) (c : Nat) (S : List Ev) : Prop := S ≠ [] → PA r w g c S
theorem PN.rely {r : Rts} {w w' : World} {g : Option Addr} {c : Nat} {S : List Ev} (h : PN r w g c S) (q : Rely r w w') : PN r w' g c S := fun e => (h e).rely q
section
variable {Post : Value → World → Prop} {r : Rts} {w w' : World} {N c c' : Nat} {g g' : Option Addr} {S : List Ev} {I : World → Prop}
set_option maxRecDepth 100000 in
set_option maxHeartbeats 8000000 in
theorem items_loop {K : List Item} {cs : List Frame} (hI : ∀ w w', I w → Rely r w w' → I w') (hN : N = S.length) (h60 : N ≤ 60)
    (cont : ∀ (s : Array Value) (w : World), I w → PN r w g c S → PN r w g' c' S → s.size = 26 → ME Tryd.prog wgL.tWg Post (.chs []) 0 r (G ((base 8).at ⟨s, []⟩ K) cs) w) :
    ∀ (d i : Nat) (s : Array Value) (w : World), d = N - i → i ≤ N → I w → PN r w g c S → PN r w g' c' S → s.size = 26 → s[0]? = some (.slice g N c) → s[1]? = some (.slice g' N c') → s[5]? = some (.int .i64 i) →
      ME Tryd.prog wgL.tWg Post (.chs []) 0 r (G ((base 8).at ⟨s, []⟩ (.code LI :: .inLoop LI :: .inBlock 0 :: K)) cs) w := by
  intro d
  induction d with
  | zero =>
    intro i s w hd hi q p p' hs h0 h1 h5
    obtain rfl : i = N := by omega
    obtain ⟨x0, x1, x2, x3, x4, x5, x6, x7, x8, x9, x10, x11, x12, x13, x14, x15, x16, x17, x18, x19, x20, x21, x22, x23, x24, x25, rfl⟩ := arr26 hs
    obtain rfl : x0 = _ := by simpa using h0
    obtain rfl : x1 = _ := by simpa using h1
    obtain rfl : x5 = _ := by simpa using h5
    clear hs h0 h1 h5 hd
    have hF : KW r ((Sg.chs []).iv wgL.tWg) w w := ⟨Rely.refl _ _, trivial⟩
    refine me_ctl rfl (fun _ => stepLI) ?_
    simp only [ri4, qI, Tryd.f8]
    have hlt : ¬ ((i : Int) < (i : Int)) := by omega
    have HN := Lib.hid hN
    clear hN
    refine me_run (m := 9) rfl trivial ?_
    w_go kw_rely
    w_go kw_rely
    w_go kw_rely
    w_go kw_rely
    w_go kw_rely
    w_go kw_rely
    w_go kw_rely
    w_go kw_rely
    w_go kw_rely
    refine Goes.stop (fun w₁ h₁ => ?_)
    replace hF := kw_rely hF h₁
    exact cont _ _ (hI _ _ q hF.1) (p.rely hF.1) (p'.rely hF.1) rfl
  | succ d ih =>
    intro i s w hd hi q p p' hs h0 h1 h5
    have hlt' : i < N := by omega
    obtain ⟨x0, x1, x2, x3, x4, x5, x6, x7, x8, x9, x10, x11, x12, x13, x14, x15, x16, x17, x18, x19, x20, x21, x22, x23, x24, x25, rfl⟩ := arr26 hs
    obtain rfl : x0 = _ := by simpa using h0
    obtain rfl : x1 = _ := by simpa using h1
    obtain rfl : x5 = _ := by simpa using h5
    clear hs h0 h1 h5
    have hF : KW r ((Sg.chs []).iv wgL.tWg) w w := ⟨Rely.refl _ _, trivial⟩
    refine me_ctl rfl (fun _ => stepLI) ?_
    simp only [ri4, ri5, ri7, qI, Tryd.f8]
    have hlt : ((i : Int) < (N : Int)) := by omega
    have HN := Lib.hid hN
    clear hN
    refine me_run (m := 12) rfl trivial ?_
    w_go kw_rely
    w_go kw_rely
    w_go kw_rely
    w_go kw_rely
    w_go kw_rely
    w_go kw_rely
    w_go kw_rely
    w_go kw_rely
    w_go kw_rely
    w_go kw_rely
    w_go kw_rely
    w_go kw_rely
    refine Goes.stop (fun w₁ h₁ => ?_)
    replace hF := kw_rely hF h₁
    replace q := hI _ _ q hF.1
    replace p := p.rely hF.1
    replace p' := p'.rely hF.1
    clear h₁ hF
    have hS : S ≠ [] := fun e => by have := HN.out; rw [e] at this; simp at this; omega
    obtain ⟨b, rfl, _, hb⟩ := (p hS).pb.off hS
    obtain ⟨b', rfl, _, hb'⟩ := (p' hS).pb.off hS
    have hc := hb i (by have := HN.out; omega)
    have hc' := hb' i (by have := HN.out; omega)
    refine me_draw alli fun l hl h9 => ?_
    rw [ri6_size] at h9
    refine it_ops (b := b) (b' := b') (i := i) (N := N) (c := c) (c' := c') hlt' rfl rfl rfl (by rw [Nat.zero_add]; exact hc.1) (by rw [Nat.zero_add]; exact hc.2) (by rw [Nat.zero_add]; exact hc'.1) (by rw [Nat.zero_add]; exact hc'.2) ((p hS).rd hS b rfl).2 ((p' hS).rd hS b' rfl).2 (fun s hs hsame h25 => ?_) l _ hl ⟨rfl, fun _ _ => rfl, fun j hj hn => absurd (h9 j (by omega)) hn⟩
    clear hc hc' hb hb' hl h9
    obtain ⟨y0, y1, y2, y3, y4, y5, y6, y7, y8, y9, y10, y11, y12, y13, y14, y15, y16, y17, y18, y19, y20, y21, y22, y23, y24, y25, rfl⟩ := arr26 hs
    obtain rfl : y0 = .slice (some ⟨b, 0, none⟩) N c := by have := hsame 0 (by omega); simpa using this
    obtain rfl : y1 = .slice (some ⟨b', 0, none⟩) N c' := by have := hsame 1 (by omega); simpa using this
    obtain rfl : y5 = .int .i64 i := by have := hsame 5 (by omega); simpa using this
    obtain rfl : y25 = .bool false := by simpa using h25
    clear hs hsame h25
    have hF : KW r ((Sg.chs []).iv wgL.tWg) w₁ w₁ := ⟨Rely.refl _ _, trivial⟩
    have hwr : IntKind.i64.wrap ((i : Int) + 1) = (i : Int) + 1 := by rw [IntKind.wrap_i64]; omega
    refine me_run (m := 12) rfl trivial ?_
    repeat w_go kw_rely
    refine Goes.stop (fun w₁ h₁ => ?_)
    replace hF := kw_rely hF h₁
    exact ih (i + 1) _ _ (by omega) hlt' (hI _ _ q hF.1) (p.rely hF.1) (p'.rely hF.1) rfl rfl rfl (by simp)
set_option maxRecDepth 100000 in
set_option maxHeartbeats 8000000 in
/-- TWO LISTS THAT ARE THE SAME -/
theorem items_all {cs : List Frame} (hI : ∀ w w', I w → Rely r w w' → I w') (q : I w) (hN : N = S.length) (h60 : N ≤ 60) (p : PN r w g c S) (p' : PN r w g' c' S)
    (cont : ∀ (s : Array Value) (todo : List Item) (w : World), I w → PN r w g c S → PN r w g' c' S → s.size = 26 → s[4]? = some (.bool true) → ME Tryd.prog wgL.tWg Post (.chs []) 0 r (G { (base 8).at ⟨s, []⟩ todo with mode := .returning } cs) w) :
    ME Tryd.prog wgL.tWg Post (.chs []) 0 r (G ((base 8).at ⟨#[.slice g N c, .slice g' N c', undef, undef, undef, undef, undef, undef, undef, undef, undef, undef, undef, undef, undef, undef, undef, undef, undef, undef, undef, undef, undef, undef, undef, undef], []⟩ [.code body6]) cs) w := by
  rw [body6_eq]
  simp only [ri0, ri1, ri3, Tryd.f8]
  have hF : KW r ((Sg.chs []).iv wgL.tWg) w w := ⟨Rely.refl _ _, trivial⟩
  have HN := Lib.hid hN
  clear hN
  have hnn : ((N : Int) != (N : Int)) = false := by simp
  refine me_run (m := 40) rfl trivial ?_
  repeat w_go kw_rely
  refine Goes.stop (fun w₁ h₁ => ?_)
  replace hF := kw_rely hF h₁
  replace q := hI _ _ q hF.1
  replace p := p.rely hF.1
  replace p' := p'.rely hF.1
  clear h₁ hF
  refine items_loop hI HN.out h60 (fun s w q p p' hs => ?_) N 0 _ _ (by omega) (Nat.zero_le _) q p p' rfl rfl rfl rfl
  obtain ⟨x0, x1, x2, x3, x4, x5, x6, x7, x8, x9, x10, x11, x12, x13, x14, x15, x16, x17, x18, x19, x20, x21, x22, x23, x24, x25, rfl⟩ := arr26 hs
  simp only [ri8, Tryd.f8]
  have hF : KW r ((Sg.chs []).iv wgL.tWg) w w := ⟨Rely.refl _ _, trivial⟩
  refine me_run (m := 5) rfl trivial ?_
  w_go kw_rely
  w_go kw_rely
  w_go kw_rely
  w_go kw_rely
  w_go kw_rely
  refine Goes.stop (fun w₁ h₁ => ?_)
  replace hF := kw_rely hF h₁
  exact cont _ _ _ (hI _ _ q hF.1) (p.rely hF.1) (p'.rely hF.1) rfl rfl
end
end Go.Proofs.YtienepcknafddaaDoor
end
