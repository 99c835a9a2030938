/- WALK: CrewHands, from its call to its end. · WALK: CrewHands, from its call to its end. · WALK: CrewHands, run: from the call to the end of the program's run. · WALK: a slice of items that came in, opened: the items with their places as stamps. -/
import Derived.Test.YtienepcknafddaaM31
import Derived.Deep.Slices
import Derived.WideShapes
section
set_option linter.unusedVariables false
set_option linter.unusedSimpArgs false
set_option linter.unusedVariables false
set_option linter.unusedSimpArgs false
namespace Go.Proofs.Ytienepcknafddaa
open Go Go.RowKit Go.Conc Co Cr SimPlain HeapPlain SymPlain
open Go.ConcM

theorem stepB3 {m : Bool} {b : Frame} {a : _root_.Go.Act} {k : List Item} {cs : List Frame} {w : World} : stepG Try.prog m (G (b.at a (.code body3b :: k)) cs) w = .go (G (b.at a (.code (.region 4 rh4 false) :: .code (.seq (.seq (.region 5 rh5 false) (.block 0 (.loop LH))) (.seq (.region 11 rh11 false) .ret)) :: k)) cs) w #[] := by
  unfold body3b; exact stepG_seq
theorem stepLH {m : Bool} {b : Frame} {a : _root_.Go.Act} {k : List Item} {cs : List Frame} {w : World} : stepG Try.prog m (G (b.at a (.code LH :: k)) cs) w = .go (G (b.at a (.code (.seq (.region 6 rh6 false) (.cond (.tmp 37) .skip (.exit 0))) :: .code (.seq (.block 1 (.seq (.region 8 rh8 false) (.seq (.region 9 rh9 true) (.cond (.tmp 56) (.seq (.region 10 rh10 false) .ret) .skip)))) (.region 7 rh7 false)) :: k)) cs) w #[] := by
  rw [LH_eq]; exact stepG_seq
/-- what stands while the hands are tried -/
structure LoF (n0 : Nat) (W0 : Past) (A : Option Addr) (b off cap : Nat) (l : List Ev) (g : Option Addr) (c : Nat) (S : List Ev) : Prop where
  arg : ArgF W0 A b off cap l
  gw : Try.prog.globals.size ≤ n0
  bef : l.Pairwise Bef
  pb : S ≠ [] → PB W0.w g c S ∧ ∀ x, g = some ⟨x, 0, none⟩ → W0.K x ∧ Try.prog.globals.size ≤ x
  yes : chkI l = 0 → S.Perm l ∧ S.Pairwise SimPlain.Lt
  no : chkI l ≠ 0 → S = [] ∧ g = none ∧ c = 0
section
variable {Post : Value → World → Prop} {r : Rts} {w : World} {n0 : Nat} {W0 : Past} {A : Option Addr} {b off cap c : Nat} {l S : List Ev} {g : Option Addr}
theorem LoF.pn (h : LoF n0 W0 A b off cap l g c S) (hH : Hold n0 W0 r w) : PN r w g c S := fun hS => by
  obtain ⟨hp, hK⟩ := h.pb hS
  refine ⟨PB.mk' hp.shape hp.cap (fun x e => ?_) fun _ x e i hi => ?_, fun _ x e => ⟨hH.oldo x (hK x e).1, fun a ha => hH.old a (by rw [ha]; exact (hK x e).1)⟩, fun x e => (hK x e).2⟩
  · obtain ⟨y, t, fr, e1⟩ := hp.ex x e
    exact ⟨y, t, fr, (hH.keep.blk x (hK x e).1).trans e1⟩
  · obtain ⟨x', e', _, h2⟩ := hp.off hS
    rw [e] at e'
    simp only [Option.some.injEq, Addr.mk.injEq, and_true] at e'
    subst e'
    have key : ∀ a : Addr, a.block = x → w.cell? a = W0.w.cell? a := fun a ha => World.cell?_of_block (by rw [ha]; exact hH.keep.blk x (hK x e).1)
    exact ⟨(key _ rfl).trans (h2 i hi).1, (key _ rfl).trans (h2 i hi).2⟩
theorem crew_same {cs : List Frame} {h : Nat} (F : CqF n0 W0 r w A b off cap l) (h1 : 1 ≤ h) (h6 : h ≤ 6) (hbef : l.Pairwise Bef) (yes : chkI l = 0 → S.Perm l ∧ S.Pairwise SimPlain.Lt) (no : chkI l ≠ 0 → S = [])
    (cont : ∀ (t : Array Value) (todo : List Item) (r : Rts) (w : World) (g : Option Addr) (c : Nat), Hold n0 W0 r w → PN r w g c S → t.size = 31 → t[4]? = some (.slice g S.length c) → t[5]? = some (errV 34 (chkI l)) → ME Try.prog wgL.tWg Post (.chs []) 0 r (G { (base 4).at ⟨t, []⟩ todo with mode := .returning } cs) w) :
    ME Try.prog wgL.tWg Post (.chs []) 0 r (G ((base 4).at ⟨#[.slice A l.length cap, .int .i64 h, undef, undef, undef, undef, undef, undef, undef, undef, undef, undef, undef, undef, undef, undef, undef, undef, undef, undef, undef, undef, undef, undef, undef, undef, undef, undef, undef, undef, undef], []⟩ [.code body4]) cs) w := by
  refine crew_sort F h1 h6 hbef (fun t todo r w hk hold hs h4 h5 => ?_) fun t todo r w g c S' hk hold hp hperm hsrt hs h4 h5 => ?_
  · have hS := no hk
    exact cont t todo r w none 0 hold (fun e => absurd hS e) hs (by rw [hS]; exact h4) h5
  · obtain ⟨y1, y2⟩ := yes hk
    obtain rfl : S' = S := sorted_unique (hperm.trans y1.symm) hsrt y2
    exact cont t todo r w g c hold (fun _ => hp) hs h4 (by rw [hk]; exact h5)
set_option maxRecDepth 100000 in
set_option maxHeartbeats 8000000 in
theorem hands_loop (F : LoF n0 W0 A b off cap l g c S) {K : List Item}
    (cont : ∀ (t : Array Value) (r : Rts) (w : World), Hold n0 W0 r w → t.size = 57 → ME Try.prog wgL.tWg Post (.chs []) 0 r (G ((base 3).at ⟨t, []⟩ K) []) w) :
    ∀ (d h : Nat) (t : Array Value) (r : Rts) (w : World), d = 7 - h → 1 ≤ h → h ≤ 7 → Hold n0 W0 r w → t.size = 57 → t[0]? = some (.slice A l.length cap) → t[5]? = some (.slice g S.length c) → t[6]? = some (errV 34 (chkI l)) → t[7]? = some (.int .i64 h) →
      ME Try.prog wgL.tWg Post (.chs []) 0 r (G ((base 3).at ⟨t, []⟩ (.code LH :: .inLoop LH :: .inBlock 0 :: K)) []) w := by
  intro d
  induction d with
  | zero =>
    intro h t r w hd h1 h7 hold hs t0 t5 t6 t7
    obtain rfl : h = 7 := by omega
    obtain ⟨x0, x1, x2, x3, x4, x5, x6, x7, x8, x9, x10, x11, x12, x13, x14, x15, x16, x17, x18, x19, x20, x21, x22, x23, x24, x25, x26, x27, x28, x29, x30, x31, x32, x33, x34, x35, x36, x37, x38, x39, x40, x41, x42, x43, x44, x45, x46, x47, x48, x49, x50, x51, x52, x53, x54, x55, x56, rfl⟩ := arr57 hs
    obtain rfl : x7 = _ := by simpa using t7
    clear hs t0 t5 t6 t7 hd h1 h7
    refine me_ctl rfl (fun _ => stepLH) ?_
    simp only [rh6, qH, qHr, Try.f3]
    have hF : KW r ((Sg.chs []).iv wgL.tWg) w w := ⟨Rely.refl _ _, trivial⟩
    refine me_run (m := 7) rfl trivial ?_
    w_go kw_rely
    w_go kw_rely
    w_go kw_rely
    w_go kw_rely
    w_go kw_rely
    w_go kw_rely
    w_go kw_rely
    refine Goes.stop (fun w₁ h₁ => ?_)
    replace hF := kw_rely hF h₁
    exact cont _ r _ (hold.rely hF.1) rfl
  | succ d ih =>
    intro h t r w hd h1 h7 hold hs t0 t5 t6 t7
    have h6 : h ≤ 6 := by omega
    obtain ⟨x0, x1, x2, x3, x4, x5, x6, x7, x8, x9, x10, x11, x12, x13, x14, x15, x16, x17, x18, x19, x20, x21, x22, x23, x24, x25, x26, x27, x28, x29, x30, x31, x32, x33, x34, x35, x36, x37, x38, x39, x40, x41, x42, x43, x44, x45, x46, x47, x48, x49, x50, x51, x52, x53, x54, x55, x56, rfl⟩ := arr57 hs
    obtain rfl : x0 = _ := by simpa using t0
    obtain rfl : x5 = _ := by simpa using t5
    obtain rfl : x6 = _ := by simpa using t6
    obtain rfl : x7 = _ := by simpa using t7
    clear hs t0 t5 t6 t7
    refine me_ctl rfl (fun _ => stepLH) ?_
    simp only [rh6, rh8, qH1, qH, qHr, Try.f3]
    have hle : ((h : Int) ≤ 6) := by omega
    have hF : KW r ((Sg.chs []).iv wgL.tWg) w w := ⟨Rely.refl _ _, trivial⟩
    refine me_run (m := 13) rfl trivial ?_
    repeat w_go kw_rely
    refine Goes.stop (fun w₁ h₁ => ?_)
    replace hF := kw_rely hF h₁
    replace hold := hold.rely hF.1
    clear h₁ hF
    refine me_call (c := body4) rfl rfl (by decide) rfl Try.func4 names4 (by kernel_rfl) ?_
    walk_nrmf Try.ntmps4
    refine crew_same (S := S) (l := l) (h := h) (A := A) (b := b) (off := off) (cap := cap) (F.arg.cq F.gw hold) h1 h6 F.bef F.yes (fun hk => (F.no hk).1) fun t todo r w g' c' hold hp hsz h4 h5 => ?_
    refine me_leave2 rfl rfl Try.func4 rfl ?_
    walk_nrm
    simp only [h4, h5, Option.getD_some]
    clear h4 h5 hsz
    have hF : KW r ((Sg.chs []).iv wgL.tWg) w w := ⟨Rely.refl _ _, trivial⟩
    refine me_run (m := 13) rfl trivial ?_
    repeat w_go kw_rely
    refine Goes.stop (fun w₁ h₁ => ?_)
    replace hF := kw_rely hF h₁
    replace hold := hold.rely hF.1
    replace hp := hp.rely hF.1
    clear h₁ hF
    have h60 : S.length ≤ 60 := by
      by_cases hk : chkI l = 0
      · rw [(F.yes hk).1.length_eq]; exact (chkI_fine hk).1
      · rw [(F.no hk).1]; simp
    refine me_draw allh fun ls hl h9 => ?_
    rw [rh9_size] at h9
    refine h_ops (I := fun w => Hold n0 W0 r w) (S := S) (N := S.length) (n := chkI l) (g := g') (c := c') (g' := g) (c' := c) (fun w w' q k => Hold.rely q k) rfl h60 rfl rfl rfl rfl (fun s w hold p p' hs hsame h56 => ?_) ls _ _ hl hold hp (F.pn hold) ⟨rfl, fun _ _ => rfl, fun j hj hn => absurd (h9 j (by omega)) hn⟩
    clear hl h9 hp p p'
    obtain ⟨y0, y1, y2, y3, y4, y5, y6, y7, y8, y9, y10, y11, y12, y13, y14, y15, y16, y17, y18, y19, y20, y21, y22, y23, y24, y25, y26, y27, y28, y29, y30, y31, y32, y33, y34, y35, y36, y37, y38, y39, y40, y41, y42, y43, y44, y45, y46, y47, y48, y49, y50, y51, y52, y53, y54, y55, y56, rfl⟩ := arr57 hs
    obtain rfl : y0 = .slice A l.length cap := by have := hsame 0 (by omega); simpa using this
    obtain rfl : y5 = .slice g S.length c := by have := hsame 5 (by omega); simpa using this
    obtain rfl : y6 = errV 34 (chkI l) := by have := hsame 6 (by omega); simpa using this
    obtain rfl : y7 = .int .i64 h := by have := hsame 7 (by omega); simpa using this
    obtain rfl : y56 = .bool false := by simpa using h56
    clear hs hsame h56
    simp only [rh7, qH, qHr, Try.f3]
    have hF : KW r ((Sg.chs []).iv wgL.tWg) w w := ⟨Rely.refl _ _, trivial⟩
    have hwr : IntKind.i64.wrap ((h : Int) + 1) = (h : Int) + 1 := by rw [IntKind.wrap_i64]; omega
    refine me_run (m := 13) rfl trivial ?_
    repeat w_go kw_rely
    refine Goes.stop (fun w₁ h₁ => ?_)
    replace hF := kw_rely hF h₁
    exact ih (h + 1) _ r _ (by omega) (by omega) (by omega) (hold.rely hF.1) rfl rfl rfl rfl (by simp)
end
end Go.Proofs.Ytienepcknafddaa
end

section
set_option linter.unusedVariables false
set_option linter.unusedSimpArgs false
set_option linter.unusedVariables false
set_option linter.unusedSimpArgs false
namespace Go.Proofs.Ytienepcknafddaa
open Go Go.RowKit Go.Conc Co Cr SimPlain HeapPlain SymPlain
open Go.ConcM

section
variable {Post : Value → World → Prop} {r : Rts} {w : World} {n0 : Nat} {W0 : Past} {A : Option Addr} {b off cap : Nat} {l : List Ev}
set_option maxRecDepth 100000 in
set_option maxHeartbeats 8000000 in
theorem hands_tail {t : Array Value} (hA : ArgF W0 A b off cap l) (gw : Try.prog.globals.size ≤ n0) (hbef : l.Pairwise Bef) (hold : Hold n0 W0 r w) (hs : t.size = 57) (t0 : t[0]? = some (.slice A l.length cap))
    (done : ∀ (t : Array Value) (todo : List Item) (r : Rts) (w : World), Hold n0 W0 r w → t.size = 57 → t[2]? = some (.bool true) → ME Try.prog wgL.tWg Post (.chs []) 0 r (G { (base 3).at ⟨t, []⟩ todo with mode := .returning } []) w) :
    ME Try.prog wgL.tWg Post (.chs []) 0 r (G ((base 3).at ⟨t, []⟩ [.code body3b]) []) w := by
  obtain ⟨x0, x1, x2, x3, x4, x5, x6, x7, x8, x9, x10, x11, x12, x13, x14, x15, x16, x17, x18, x19, x20, x21, x22, x23, x24, x25, x26, x27, x28, x29, x30, x31, x32, x33, x34, x35, x36, x37, x38, x39, x40, x41, x42, x43, x44, x45, x46, x47, x48, x49, x50, x51, x52, x53, x54, x55, x56, rfl⟩ := arr57 hs
  obtain rfl : x0 = _ := by simpa using t0
  clear hs t0
  refine me_ctl rfl (fun _ => stepB3) ?_
  have FQ := hA.cq gw hold
  let D : Nat → Prop := fun x => A = some ⟨x, off, none⟩
  let S : Nat → Prop := fun b => ¬ RdB r b
  let Mm : Nat → Prop := fun _ => False
  have hg : Try.prog.globals.size ≤ w.heap.size := FQ.gw
  have hd : A = some ⟨b, off, none⟩ → (gr Try.prog w D S Mm).dom b := fun e => ⟨e, (FQ.rb e).2.2, (FQ.rb e).2.1⟩
  have hA' : A = some ⟨b, off, none⟩ ∨ A = none := hA.hA.imp id (·.1)
  refine me_str (f := 3) cw_funs ⟨_, rfl⟩ (by decide) (by kernel_rfl) hg D S Mm cov_S (RelH A cap l) (relH_carried hA' hd rfl) [] (fun T => ?_) fun t' ρ r' W' hR hext hway hgh => ?_
  · simp only [mrow, List.map_toArray, List.map_cons, List.map_nil, mask_eq (sliceA_vr FQ (D := D) (S := S) (M := Mm) (nn := l.length) fun e => e)]
    exact hsort_wp l A b off cap _ _ _ _ _ _ _ _ _ _ _ _ _ _ _ _ _ _ _ _ _ _ _ _ _ _ _ _ _ _ _ _ _ _ _ _ _ _ _ _ _ _ _ _ _ _ _ _ _ _ _ _ _ _ _ _ _ (evA_ghost FQ) hA.hA hA.big hbef
  · change ME Try.prog wgL.tWg Post (.chs []) 0 r' (G ((base 3).at ⟨t', []⟩ (.code (.seq (.seq (.region 5 rh5 false) (.block 0 (.loop LH))) (.seq (.region 11 rh11 false) .ret)) :: [])) []) W'
    have hrl : Rely r w W' := hway.rely fun b i hb hm => hm.1
    have hold' : Hold n0 W0 r' W' := Hold.mono (hold.rely hrl) hway.rd (hway.sub hold.sub)
    obtain ⟨tg, ws, ht, hw, hsz, e0, g0, c, So, hpb, e5, e6, k1, k2⟩ := hgh
    obtain ⟨v0, f0, r0⟩ := ht.get e0
    obtain ⟨v5, f5, r5⟩ := ht.get e5
    obtain ⟨v6, f6, r6⟩ := ht.get e6
    rw [VR.slA_eq hext hA' hd rfl r0] at f0
    rw [VR.errV_eq r6] at f6
    obtain ⟨g, rfl, hPA⟩ := pa_carry hway (fun _ => rfl) (fun b hb => hb.2.1) hg hw hpb r5
    have hk2 : chkI l ≠ 0 → So = [] ∧ g = none ∧ c = 0 := fun h => by
      obtain ⟨a1, a2, a3⟩ := k2 h
      subst a2
      cases r5
      exact ⟨a1, rfl, a3⟩
    have hs' : t'.size = 57 := by rw [← ht.1]; exact hsz
    clear hR hext hway ht hw e0 e5 e6 r0 r5 r6 hpb k2 hrl
    -- from here on order.Sort's list is kept, too
    let W1 : Past := ⟨W', fun x => W0.K x ∨ (So ≠ [] ∧ g = some ⟨x, 0, none⟩)⟩
    have hold1 : Hold W'.heap.size W1 r' W' := by
      refine ⟨hold'.sub, fun a ha => ?_, fun x hx => ?_, ⟨rfl, rfl, rfl, fun _ _ => rfl⟩, Nat.le_refl _, fun x hx => ?_⟩
      · rcases ha with ha | ⟨h1, h2⟩
        · exact hold'.old a ha
        · exact (hPA.rd h1 _ h2).2 a rfl
      · rcases hx with hx | ⟨h1, h2⟩
        · exact hold'.oldo x hx
        · exact (hPA.rd h1 _ h2).1
      · rcases hx with hx | ⟨h1, h2⟩
        · exact Nat.lt_of_lt_of_le (hold'.lt x hx) hold'.le
        · obtain ⟨y, t, fr, e⟩ := hPA.pb.ex x h2
          exact (Array.getElem?_eq_some_iff.1 e).1
    have F1 : LoF W'.heap.size W1 A b off cap l g c So := by
      have FQ' := hA.cq gw hold'
      exact ⟨⟨hA.hA, FQ'.hE, fun e => ⟨.inl (hA.rb e).1, (FQ'.rb e).2⟩, hA.hlc, hA.big⟩, FQ'.gw, hbef, fun hS => ⟨hPA.pb, fun x e => ⟨.inr ⟨hS, e⟩, hPA.gl x e⟩⟩, k1, hk2⟩
    have back : ∀ {r w}, Hold W'.heap.size W1 r w → Hold n0 W0 r w := fun {r w} h => ⟨h.sub, fun a ha => h.old a (.inl ha), fun x hx => h.oldo x (.inl hx), ⟨h.keep.os.trans hold'.keep.os, h.keep.tape.trans hold'.keep.tape, h.keep.output.trans hold'.keep.output, fun x hx => (h.keep.blk x (.inl hx)).trans (hold'.keep.blk x hx)⟩, Nat.le_trans hold'.le h.le, hold'.lt⟩
    obtain ⟨y0, y1, y2, y3, y4, y5, y6, y7, y8, y9, y10, y11, y12, y13, y14, y15, y16, y17, y18, y19, y20, y21, y22, y23, y24, y25, y26, y27, y28, y29, y30, y31, y32, y33, y34, y35, y36, y37, y38, y39, y40, y41, y42, y43, y44, y45, y46, y47, y48, y49, y50, y51, y52, y53, y54, y55, y56, rfl⟩ := arr57 hs'
    obtain rfl : y0 = _ := by simpa using f0
    obtain rfl : y5 = _ := by simpa using f5
    obtain rfl : y6 = _ := by simpa using f6
    clear hs' f0 f5 f6
    simp only [rh5, qHr, Try.f3]
    have hF : KW r' ((Sg.chs []).iv wgL.tWg) W' W' := ⟨Rely.refl _ _, trivial⟩
    refine me_run (m := 8) rfl trivial ?_
    repeat w_go kw_rely
    refine Goes.stop (fun w₁ h₁ => ?_)
    replace hF := kw_rely hF h₁
    refine hands_loop F1 (fun t r w hold hs => ?_) 6 1 _ r' _ (by omega) (by omega) (by omega) (hold1.rely hF.1) rfl rfl rfl rfl rfl
    obtain ⟨z0, z1, z2, z3, z4, z5, z6, z7, z8, z9, z10, z11, z12, z13, z14, z15, z16, z17, z18, z19, z20, z21, z22, z23, z24, z25, z26, z27, z28, z29, z30, z31, z32, z33, z34, z35, z36, z37, z38, z39, z40, z41, z42, z43, z44, z45, z46, z47, z48, z49, z50, z51, z52, z53, z54, z55, z56, rfl⟩ := arr57 hs
    clear hs hF h₁
    simp only [rh11, qHr, Try.f3]
    have hF : KW r ((Sg.chs []).iv wgL.tWg) w w := ⟨Rely.refl _ _, trivial⟩
    refine me_run (m := 5) rfl trivial ?_
    w_go kw_rely
    w_go kw_rely
    w_go kw_rely
    w_go kw_rely
    w_go kw_rely
    refine Goes.stop (fun w₁ h₁ => ?_)
    replace hF := kw_rely hF h₁
    exact done _ _ r _ (back (hold.rely hF.1)) rfl rfl
end
end Go.Proofs.Ytienepcknafddaa
end

section
set_option linter.unusedVariables false
set_option linter.unusedSimpArgs false
set_option linter.unusedVariables false
set_option linter.unusedSimpArgs false
namespace Go.Proofs.Ytienepcknafddaa
open Go Go.RowKit Go.Conc Co Cr SimPlain HeapPlain SymPlain
open Go.ConcM

/-- the last step of a call with nothing beneath it -/
theorem stepG_end {P : Program} {w : World} {b : Frame} {a : _root_.Go.Act} {fn : Func} {todo : List Item} {v : Value} (hn : b.kind = .normal) (hd : a.defers = []) (hf : P.funcs[b.fn]? = some fn)
    (hr : (results fn a.tmps).run P w = .ok v w) (he : (results fn a.tmps).events P w #[] = #[]) (hi : P.inits.idxOf? b.fn = none) :
    stepG P true (G { b.at a todo with mode := .returning } []) w = .ended (.done v) w #[] := by
  simp [G, stepG, unwind, doReturn, Frame.at, hn, hd, hf, hr, he, hi, seen, GStep.after]
theorem end3 (tm : Array Value) (todo : List Item) {v : Value} (h2 : tm[2]? = some v) (w : World) :
    stepG Try.prog true (G { (base 3).at ⟨tm, []⟩ todo with mode := .returning } []) w = .ended (.done v) w #[] := by
  have hd : tm.getD 2 undef = v := by
    rw [Array.getD_eq_getD_getElem?, h2]
    rfl
  exact stepG_end rfl rfl Try.func3 (by rw [← hd]; exact results_tmp rfl _ _ w) (events_results_tmp rfl _ _) (by kernel_rfl)
set_option maxRecDepth 100000 in
theorem hands_run {W : World} {A : Option Addr} {b off cap : Nat} {l : List Ev} (hA : ArgF ⟨W, fun x => x < W.heap.size⟩ A b off cap l) (gw : Try.prog.globals.size ≤ W.heap.size) (hbef : l.Pairwise Bef) :
    ∃ N last o w' t', runNT Try.prog (N + 1) (solo (G (Frame.enter Try.prog 3 #[.slice A l.length cap] .normal) []) W) #[] = (.ended o w', t') ∧
      runN Try.prog N (solo (G (Frame.enter Try.prog 3 #[.slice A l.length cap] .normal) []) W) = .next last ∧ step Try.prog last = .ended o w' ∧
      Conc.Good Try.prog (fun v w' => v = .bool true ∧ Below W.heap.size W w') last o w' t' := by
  let r : Rts := ⟨fun l => l.low W.heap.size ∧ l.isMemory = true, fun l => l.low W.heap.size ∧ l.isMemory = true⟩
  have hold : Hold W.heap.size ⟨W, fun x => x < W.heap.size⟩ r W := ⟨fun _ h => h, fun a ha => ⟨ha, rfl⟩, fun b hb => ⟨hb, rfl⟩, ⟨rfl, rfl, rfl, fun _ _ => rfl⟩, Nat.le_refl _, fun _ h => h⟩
  have hb3 : Try.f3.body = some body3 := by kernel_rfl
  have ME3 : ME Try.prog wgL.tWg (fun v w' => v = .bool true ∧ Below W.heap.size W w') (.chs []) 0 r (G (Frame.enter Try.prog 3 #[.slice A l.length cap] .normal) []) W := by
    rw [enter_at _ Try.func3 hb3, Try.ntmps3]
    simp only [List.size_toArray, List.length_cons, List.length_nil, Nat.reduceAdd, Nat.reduceSub, Array.replicate_succ, Array.replicate_zero, List.push_toArray, List.append_toArray, List.nil_append, List.cons_append]
    refine hands_head hold gw fun t r' w' hold' hs h0 => ?_
    refine hands_tail hA gw hbef hold' hs h0 fun t todo r' w' hold' hs h2 => ?_
    refine ME.end_ rfl fun w1 h1 => ⟨.bool true, #[], end3 t todo h2 w1, by simp, rfl, ?_⟩
    have h := hold'.rely h1
    exact ⟨h.keep.os, h.keep.tape, h.keep.output, h.le, fun k hk => h.keep.blk k hk⟩
  obtain ⟨T, hT⟩ := ME3
  exact mrun_ends hT (fun _ h => h.1) (fun _ h => h.2) fun _ h => h
end Go.Proofs.Ytienepcknafddaa
end

section
set_option linter.unusedVariables false
set_option linter.unusedSimpArgs false
namespace Go.Proofs.Ytienepcknafddaa
open Go Go.RowKit Go.Deep Go.ChangeShapes Go.WideShapes SimPlain

def Row_its (w : World) (a : Option Addr) (len cap : Nat) : Prop :=
  (a = none ∧ len = 0 ∧ cap = 0) ∨ ∃ x, a = some x ∧ len ≤ cap ∧ cap ≤ maxLen ∧ ∀ i, i < len → ∃ m j : Int,
    w.cell? (x.add (i * 2)) = some (.int .i64 m) ∧ w.cell? (x.add (i * 2 + 1)) = some (.int .i64 j)
set_option maxRecDepth 100000 in
theorem open_its {H : Type} {enc : TypeId × Value → H} {w : World} {spare : Nat → Bool} {held : Bool} {fuel : Nat} {a : Option Addr} {len cap : Nat} {x : DataW H × List MemPlace}
    (h : DataW.trod enc Try.prog w 0 spare held fuel 22 (Value.cells (.slice a len cap)).toList = some x) : Row_its w a len cap := by
  have ce : Try.prog.cellsOf 28 = 2 := by kernel_rfl
  have c3 : Try.prog.cellsOf 3 = 1 := by kernel_rfl
  rcases open_slice Try.underlying22 h with ⟨hc, _⟩ | ⟨y, l, c, m, n, D, Pl, hc, _, hl, hm, hmm, _, hx⟩
  · simp [Value.cells] at hc
    exact .inl hc
  · simp [Value.cells] at hc
    obtain ⟨rfl, rfl, rfl⟩ := hc
    refine .inr ⟨y, rfl, hl, hm, fun i hi => ?_⟩
    have hlm : len ≤ m := by rw [hmm]; split <;> omega
    obtain ⟨cs', h1, h2⟩ := hx i (by omega)
    rw [ce] at h1
    obtain ⟨_, hlen, hcell⟩ := World.cells?_some h1
    obtain ⟨xs, k, hk, hxy, _, hxl, hf⟩ := DataW.trod_struct Try.underlying28 h2
    match xs, hxl, cs', hlen with
    | [y0, y1], _, [v0, v1], _ =>
      have g0 := hf 0 _ rfl
      have g1 := hf 1 _ rfl
      simp [c3] at g0 g1
      have e0 := hcell 0 (by omega)
      have e1 := hcell 1 (by omega)
      rw [add_add] at e0 e1
      obtain ⟨n0, q0, _, w0⟩ := DataW.trod_int Try.underlying3 g0
      obtain ⟨n1, q1, _, w1⟩ := DataW.trod_int Try.underlying3 g1
      simp only [List.cons.injEq, and_true] at q0 q1
      subst q0; subst q1
      exact ⟨n0, n1, by simpa using e0, by simpa using e1⟩
/-- what a slice that comes in lies in -/
theorem okWide_lies {P : Program} {w : World} {base : Nat} {t e : TypeId} {x : Addr} {len cap : Nat} (ht : P.underlying t = some (.slice e)) (h : Value.okWide P w .any base t (.slice (some x) len cap)) : x.spot = none ∧ CellsAt w x.block := by
  simp only [Value.okWide, ht, Cell.okWide, Cell.ok] at h
  obtain ⟨_, _, _, hs, row, cells, hsh, _⟩ := h
  refine ⟨hs, ?_⟩
  unfold World.shape? at hsh
  split at hsh
  · exact ⟨_, _, _, by assumption⟩
  · cases hsh
theorem row_its {w : World} {a : Option Addr} {len cap : Nat} (h : Row_its w a len cap) (hk : ∀ x, a = some x → x.spot = none ∧ CellsAt w x.block) (gz : Try.prog.globals.size = 0) : ∃ (b off : Nat) (l : List Ev), len = l.length ∧ ArgF ⟨w, fun x => x < w.heap.size⟩ a b off cap l ∧ l.Pairwise Bef := by
  rcases h with ⟨rfl, rfl, rfl⟩ | ⟨x, rfl, hl, hm, hc⟩
  · exact ⟨0, 0, [], rfl, ⟨.inr ⟨rfl, rfl, rfl⟩, .inl rfl, fun e => (by cases e), by simp, by simp⟩, .nil⟩
  · have each : ∀ i, i < len → ∃ q : Int × Int, w.cell? (x.add (i * 2)) = some (.int .i64 q.1) ∧ w.cell? (x.add (i * 2 + 1)) = some (.int .i64 q.2) := fun i hi => by
      obtain ⟨m, j, h⟩ := hc i hi
      exact ⟨(m, j), h⟩
    obtain ⟨q, hq⟩ := choose_lt each
    unfold maxLen at hm
    obtain ⟨b, off, spot⟩ := x
    obtain ⟨hsp, hcl⟩ := hk _ rfl
    simp only at hsp hcl
    subst hsp
    have hb : b < w.heap.size := by
      obtain ⟨c, t, fr, e⟩ := hcl
      exact (Array.getElem?_eq_some_iff.1 e).1
    refine ⟨b, off, (List.range len).map fun i => { t := (q i).1, id := (q i).2, s := i }, by simp, ⟨.inl rfl, ?_, fun e => ⟨hb, hcl, by omega⟩, by simp; omega, by simp; omega⟩, ?_⟩
    · refine .inr ⟨b, off, rfl, hb, fun i hi => ?_⟩
      have hi' : i < len := by simpa using hi
      obtain ⟨q0, q1⟩ := hq i hi'
      have hadd : ∀ j, (⟨b, off, none⟩ : Addr).add j = ⟨b, off + j, none⟩ := fun j => by unfold Addr.add; split <;> simp_all
      rw [hadd] at q0 q1
      have hg : ((List.range len).map fun i => ({ t := (q i).1, id := (q i).2, s := i } : Ev)).getD i e0 = { t := (q i).1, id := (q i).2, s := i } := by
        rw [List.getD_eq_getElem?_getD, List.getElem?_eq_getElem hi]; simp
      rw [hg]
      exact ⟨q0, by rw [Nat.add_assoc]; exact q1⟩
    · refine List.pairwise_map.2 (List.Pairwise.imp (fun {a b} h => ?_) (List.pairwise_lt_range))
      simp only [Bef]
      omega
end Go.Proofs.Ytienepcknafddaa
end
