/- WALK: CrewSays: its text in parts; what is kept while others run; the two stretches that it computes alone. -/
import Derived.Test.YtienepcknafddaaDoorCxTold
import Derived.Test.YtienepcknafddaaDoorCxItems
import Derived.Test.YtienepcknafddaaDoorCxSort
set_option linter.unusedVariables false
set_option linter.unusedSimpArgs false
namespace Go.Proofs.YtienepcknafddaaDoor
open Go Go.RowKit Go.Conc Co Cr SimPlain HeapPlain SymPlain
open Go.ConcM

theorem arr39 {t : Array Value} (h : t.size = 39) : ∃ x0 x1 x2 x3 x4 x5 x6 x7 x8 x9 x10 x11 x12 x13 x14 x15 x16 x17 x18 x19 x20 x21 x22 x23 x24 x25 x26 x27 x28 x29 x30 x31 x32 x33 x34 x35 x36 x37 x38 : Value, t = #[x0, x1, x2, x3, x4, x5, x6, x7, x8, x9, x10, x11, x12, x13, x14, x15, x16, x17, x18, x19, x20, x21, x22, x23, x24, x25, x26, x27, x28, x29, x30, x31, x32, x33, x34, x35, x36, x37, x38] := by
  obtain ⟨l⟩ := t
  have k0 : l.length = 39 := h
  clear h
  obtain ⟨x0, l1, rfl, k1⟩ := cons_of k0
  obtain ⟨x1, l2, rfl, k2⟩ := cons_of k1
  obtain ⟨x2, l3, rfl, k3⟩ := cons_of k2
  obtain ⟨x3, l4, rfl, k4⟩ := cons_of k3
  obtain ⟨x4, l5, rfl, k5⟩ := cons_of k4
  obtain ⟨x5, l6, rfl, k6⟩ := cons_of k5
  obtain ⟨x6, l7, rfl, k7⟩ := cons_of k6
  obtain ⟨x7, l8, rfl, k8⟩ := cons_of k7
  obtain ⟨x8, l9, rfl, k9⟩ := cons_of k8
  obtain ⟨x9, l10, rfl, k10⟩ := cons_of k9
  obtain ⟨x10, l11, rfl, k11⟩ := cons_of k10
  obtain ⟨x11, l12, rfl, k12⟩ := cons_of k11
  obtain ⟨x12, l13, rfl, k13⟩ := cons_of k12
  obtain ⟨x13, l14, rfl, k14⟩ := cons_of k13
  obtain ⟨x14, l15, rfl, k15⟩ := cons_of k14
  obtain ⟨x15, l16, rfl, k16⟩ := cons_of k15
  obtain ⟨x16, l17, rfl, k17⟩ := cons_of k16
  obtain ⟨x17, l18, rfl, k18⟩ := cons_of k17
  obtain ⟨x18, l19, rfl, k19⟩ := cons_of k18
  obtain ⟨x19, l20, rfl, k20⟩ := cons_of k19
  obtain ⟨x20, l21, rfl, k21⟩ := cons_of k20
  obtain ⟨x21, l22, rfl, k22⟩ := cons_of k21
  obtain ⟨x22, l23, rfl, k23⟩ := cons_of k22
  obtain ⟨x23, l24, rfl, k24⟩ := cons_of k23
  obtain ⟨x24, l25, rfl, k25⟩ := cons_of k24
  obtain ⟨x25, l26, rfl, k26⟩ := cons_of k25
  obtain ⟨x26, l27, rfl, k27⟩ := cons_of k26
  obtain ⟨x27, l28, rfl, k28⟩ := cons_of k27
  obtain ⟨x28, l29, rfl, k29⟩ := cons_of k28
  obtain ⟨x29, l30, rfl, k30⟩ := cons_of k29
  obtain ⟨x30, l31, rfl, k31⟩ := cons_of k30
  obtain ⟨x31, l32, rfl, k32⟩ := cons_of k31
  obtain ⟨x32, l33, rfl, k33⟩ := cons_of k32
  obtain ⟨x33, l34, rfl, k34⟩ := cons_of k33
  obtain ⟨x34, l35, rfl, k35⟩ := cons_of k34
  obtain ⟨x35, l36, rfl, k36⟩ := cons_of k35
  obtain ⟨x36, l37, rfl, k37⟩ := cons_of k36
  obtain ⟨x37, l38, rfl, k38⟩ := cons_of k37
  obtain ⟨x38, l39, rfl, k39⟩ := cons_of k38
  obtain rfl := List.eq_nil_of_length_eq_zero k39
  exact ⟨x0, x1, x2, x3, x4, x5, x6, x7, x8, x9, x10, x11, x12, x13, x14, x15, x16, x17, x18, x19, x20, x21, x22, x23, x24, x25, x26, x27, x28, x29, x30, x31, x32, x33, x34, x35, x36, x37, x38, rfl⟩
noncomputable def bodyZ : Code := Tryd.f3.body.getD .skip
noncomputable def rz0 : Array Oper := match bodyZ with | .seq (.region _ o _) _ => o | _ => #[]
noncomputable def bodyZ1 : Code := match bodyZ with | .seq _ c => c | _ => .skip
noncomputable def codeZ1 : Code := match bodyZ1 with | .seq c _ => c | _ => .skip
noncomputable def rz1 : Array Oper := match codeZ1 with | .region _ o _ => o | _ => #[]
noncomputable def bodyZ2 : Code := match bodyZ1 with | .seq _ c => c | _ => .skip
noncomputable def rz2 : Array Oper := match bodyZ2 with | .seq (.seq (.region _ o _) _) _ => o | _ => #[]
noncomputable def rz3 : Array Oper := match bodyZ2 with | .seq (.seq _ (.cond _ (.region _ o _) _)) _ => o | _ => #[]
noncomputable def bodyZ4 : Code := match bodyZ2 with | .seq _ c => c | _ => .skip
noncomputable def rz4 : Array Oper := match bodyZ4 with | .seq (.region _ o _) _ => o | _ => #[]
noncomputable def bodyZ5 : Code := match bodyZ4 with | .seq _ c => c | _ => .skip
noncomputable def rz5 : Array Oper := match bodyZ5 with | .seq (.seq (.region _ o _) _) _ => o | _ => #[]
noncomputable def codeZ6 : Code := match bodyZ5 with | .seq (.seq _ (.cond _ c _)) _ => c | _ => .skip
noncomputable def rz6 : Array Oper := match codeZ6 with | .region _ o _ => o | _ => #[]
noncomputable def bodyZ7 : Code := match bodyZ5 with | .seq _ c => c | _ => .skip
noncomputable def rz7 : Array Oper := match bodyZ7 with | .seq (.region _ o _) _ => o | _ => #[]
noncomputable def rz8 : Array Oper := match bodyZ7 with | .seq _ (.seq (.region _ o _) _) => o | _ => #[]
theorem bodyZ_eq : bodyZ = .seq (.region 0 rz0 false) (.seq codeZ1 bodyZ2) := by kernel_rfl
theorem codeZ1_eq : codeZ1 = .region 1 rz1 false := by kernel_rfl
theorem bodyZ2_eq : bodyZ2 = .seq (.seq (.region 2 rz2 false) (.cond (.tmp 20) (.region 3 rz3 false) .skip)) (.seq (.region 4 rz4 false) bodyZ5) := by kernel_rfl
theorem bodyZ5_eq : bodyZ5 = .seq (.seq (.region 5 rz5 false) (.cond (.tmp 22) codeZ6 .skip)) bodyZ7 := by kernel_rfl
theorem codeZ6_eq : codeZ6 = .region 6 rz6 false := by kernel_rfl
theorem bodyZ7_eq : bodyZ7 = .seq (.region 7 rz7 false) (.seq (.region 8 rz8 false) .ret) := by kernel_rfl
theorem loudZ : (Tryd.prog.funcs[3]?).any (·.norace) = false := by kernel_rfl

/-! ### what is kept -/
/-- what there was, and a list that was made since -/
def _root_.Cr.Past.add (W0 : Past) (w : World) (g : Option Addr) (S : List Ev) : Past := ⟨w, fun x => W0.K x ∨ (S ≠ [] ∧ g = some ⟨x, 0, none⟩)⟩
section
variable {r r' : Rts} {w w' : World} {n0 : Nat} {W0 : Past} {A g : Option Addr} {b off cap c : Nat} {l S : List Ev}
theorem _root_.Cr.Hold.add (h : Hold n0 W0 r w) (p : PN r w g c S) : Hold w.heap.size (W0.add w g S) r w := by
  refine ⟨h.sub, fun a ha => ?_, fun x hx => ?_, ⟨rfl, rfl, rfl, fun _ _ => rfl⟩, Nat.le_refl _, fun x hx => ?_⟩
  · rcases ha with ha | ⟨h1, h2⟩
    · exact h.old a ha
    · exact ((p h1).rd h1 _ h2).2 a rfl
  · rcases hx with hx | ⟨h1, h2⟩
    · exact h.oldo x hx
    · exact ((p h1).rd h1 _ h2).1
  · rcases hx with hx | ⟨h1, h2⟩
    · exact Nat.lt_of_lt_of_le (h.lt x hx) h.le
    · obtain ⟨y, t, fr, e⟩ := (p h1).pb.ex x h2
      exact (Array.getElem?_eq_some_iff.1 e).1
theorem _root_.Cr.Hold.back (h : Hold n0 W0 r w) (k : Hold w.heap.size (W0.add w g S) r' w') : Hold n0 W0 r' w' :=
  ⟨k.sub, fun a ha => k.old a (.inl ha), fun x hx => k.oldo x (.inl hx), ⟨k.keep.os.trans h.keep.os, k.keep.tape.trans h.keep.tape, k.keep.output.trans h.keep.output, fun x hx => (k.keep.blk x (.inl hx)).trans (h.keep.blk x hx)⟩, Nat.le_trans h.le k.le, h.lt⟩
theorem PN.add (p : PN r w g c S) (k : Hold w.heap.size (W0.add w g S) r' w') : PN r' w' g c S := fun hS => by
  have hp := (p hS).pb
  have hK : ∀ x, g = some ⟨x, 0, none⟩ → (W0.add w g S).K x := fun x e => .inr ⟨hS, e⟩
  refine ⟨PB.mk' hp.shape hp.cap (fun x e => ?_) fun _ x e i hi => ?_, fun _ x e => ⟨k.oldo x (hK x e), fun a ha => k.old a (by rw [ha]; exact hK x e)⟩, fun x e => (p hS).gl x e⟩
  · obtain ⟨y, t, fr, e1⟩ := hp.ex x e
    exact ⟨y, t, fr, (k.keep.blk x (hK x e)).trans e1⟩
  · obtain ⟨x', e', _, h2⟩ := hp.off hS
    rw [e] at e'
    simp only [Option.some.injEq, Addr.mk.injEq, and_true] at e'
    subst e'
    have key : ∀ a : Addr, a.block = x → w'.cell? a = w.cell? a := fun a ha => World.cell?_of_block (by rw [ha]; exact k.keep.blk x (hK x e))
    exact ⟨(key _ rfl).trans (h2 i hi).1, (key _ rfl).trans (h2 i hi).2⟩
theorem GlF.add (gl : GlF W0) (h : Hold n0 W0 r w) (g : Option Addr) (S : List Ev) : GlF (W0.add w g S) := ⟨.inl gl.K, (gl.cl h).at_⟩
/-- the items of the law's argument, as they stood -/
structure ArgF (W0 : Past) (A : Option Addr) (b off cap : Nat) (l : List Ev) : Prop where
  hA : A = some ⟨b, off, none⟩ ∨ (A = none ∧ l = [] ∧ cap = 0)
  hE : EvA W0.w A l
  rb : A = some ⟨b, off, none⟩ → W0.K b ∧ CellsAt W0.w b ∧ Tryd.prog.globals.size ≤ b
  hlc : l.length ≤ cap
  big : l.length ≤ 9223372036854775807
theorem ArgF.cq (h : ArgF W0 A b off cap l) (gw : Tryd.prog.globals.size ≤ n0) (hH : Hold n0 W0 r w) : CqF n0 W0 r w A b off cap l := by
  refine ⟨hH, h.hA, ?_, fun e => ?_, h.hlc, h.big, Nat.le_trans gw hH.le⟩
  · rcases h.hE with e | ⟨b', o', e, h1, h2⟩
    · exact .inl e
    · rcases h.hA with e' | ⟨e', _⟩
      · have hb := h.rb e'
        rw [e] at e'
        simp only [Option.some.injEq, Addr.mk.injEq, and_true] at e'
        obtain ⟨rfl, rfl⟩ := e'
        have key : ∀ x : Addr, x.block = b' → w.cell? x = W0.w.cell? x := fun x hx => World.cell?_of_block (by rw [hx]; exact hH.keep.blk b' hb.1)
        exact .inr ⟨b', o', e, Nat.lt_of_lt_of_le (hH.lt b' hb.1) hH.le, fun i hi => ⟨(key _ rfl).trans (h2 i hi).1, (key _ rfl).trans (h2 i hi).2⟩⟩
      · rw [e] at e'; cases e'
  · obtain ⟨hK, ⟨x, t, fr, e1⟩, h2⟩ := h.rb e
    exact ⟨⟨hH.oldo b hK, fun a ha => hH.old a (by rw [ha]; exact hK)⟩, ⟨x, t, fr, (hH.keep.blk b hK).trans e1⟩, h2⟩
theorem ArgF.add (h : ArgF W0 A b off cap l) (gw : Tryd.prog.globals.size ≤ n0) (hH : Hold n0 W0 r w) (g : Option Addr) (S : List Ev) : ArgF (W0.add w g S) A b off cap l := by
  have q := h.cq gw hH
  exact ⟨h.hA, q.hE, fun e => ⟨.inl (h.rb e).1, (q.rb e).2⟩, h.hlc, h.big⟩
end
theorem VR.slA_eq {ok : FuncId → Prop} {ρ0 ρ : Ren} {A : Option Addr} {b off nn cc : Nat} {v : Value} (hx : Ext ρ0 ρ) (hA : A = some ⟨b, off, none⟩ ∨ A = none) (hd : A = some ⟨b, off, none⟩ → ρ0.dom b) (hto : ρ0.to b = b) (h : VR ok ρ (.slice A nn cc) v) : v = .slice A nn cc := by
  rcases hA with e | e
  · have hb := hd e
    subst e
    cases h with
    | sl _ _ ha =>
      obtain ⟨_, rfl⟩ := ha
      simp only [(hx.at_ b hb).2, hto]
  · subst e
    cases h
    rfl

/-! ### the two stretches, alone -/
/-- what the first leaves: what is wrong with the items -/
def RelZ1 (A : Option Addr) (cap : Nat) (l : List Ev) (z : Int) (t : Array Value) (w : World) : Prop := t.size = 39 ∧ t[0]? = some (.slice A l.length cap) ∧ t[1]? = some (.int .i64 z) ∧ t[5]? = some (.int .i64 (chkI l))
theorem relZ1_carried {ρ0 : Ren} {A : Option Addr} {b off cap : Nat} {l : List Ev} {z : Int} (hA : A = some ⟨b, off, none⟩ ∨ A = none) (hd : A = some ⟨b, off, none⟩ → ρ0.dom b) (hto : ρ0.to b = b) : Carried cwL Tryd.prog ρ0 (RelZ1 A cap l z) := by
  rintro ρ t t' w w' hx _ ht hw ⟨hs, e0, e1, e5⟩
  obtain ⟨v0, f0, r0⟩ := ht.get e0
  obtain ⟨v1, f1, r1⟩ := ht.get e1
  obtain ⟨v5, f5, r5⟩ := ht.get e5
  rw [VR.slA_eq hx hA hd hto r0] at f0
  rw [VR.int_eq r1] at f1
  rw [VR.int_eq r5] at f5
  exact ⟨by rw [← ht.1]; exact hs, f0, f1, f5⟩
set_option maxRecDepth 100000 in
set_option maxHeartbeats 4000000 in
theorem z1_wp (l : List Ev) (A : Option Addr) (cap : Nat) (z : Int) (x2 x3 x4 x5 x6 x7 x8 x9 x10 x11 x12 x13 x14 x15 x16 x17 x18 x19 x20 x21 x22 x23 x24 x25 x26 x27 x28 x29 x30 x31 x32 x33 x34 x35 x36 x37 x38 : Value) (w : World) (hx : EvA w A l) (hlen : l.length ≤ 9223372036854775807) :
    (Code.region 1 rz1 false).wp Tryd.prog (fun e a w' => e = .normal ∧ a.defers = [] ∧ RelZ1 A cap l z a.tmps w') ⟨#[.slice A l.length cap, .int .i64 z, x2, x3, x4, x5, x6, x7, x8, x9, x10, x11, x12, x13, x14, x15, x16, x17, x18, x19, x20, x21, x22, x23, x24, x25, x26, x27, x28, x29, x30, x31, x32, x33, x34, x35, x36, x37, x38], []⟩ w := by
  have H1 := Lib.hid (ritems_any l A cap w hx hlen)
  clear hx hlen
  simp only [rz1, codeZ1, bodyZ1, bodyZ, Option.getD_some, Tryd.f3]
  generalize hN : l.length = N at *
  generalize hK : chkI l = kk at *
  have HN := Lib.hid hN
  have HK := Lib.hid hK
  clear hN hK
  go_wp2_with fail
  refine H1.out.mono ?_
  rintro e w2 ⟨rfl, q, rfl⟩
  go_wp2
  obtain rfl := HN.out
  obtain rfl := HK.out
  exact ⟨rfl, rfl, rfl, rfl⟩
/-- what the second leaves: what is wanted -/
def RelZ6 (A : Option Addr) (cap : Nat) (l : List Ev) (z kk : Int) (t : Array Value) (w : World) : Prop := t.size = 39 ∧ t[0]? = some (.slice A l.length cap) ∧ t[1]? = some (.int .i64 z) ∧ t[5]? = some (.int .i64 kk) ∧ ∃ g c S, PB w g c S ∧ t[6]? = some (.slice g S.length c) ∧ S.Perm l ∧ S.Pairwise SimPlain.Lt
theorem relZ6_carried {ρ0 : Ren} {A : Option Addr} {b off cap : Nat} {l : List Ev} {z kk : Int} (hA : A = some ⟨b, off, none⟩ ∨ A = none) (hd : A = some ⟨b, off, none⟩ → ρ0.dom b) (hto : ρ0.to b = b) : Carried cwL Tryd.prog ρ0 (RelZ6 A cap l z kk) := by
  rintro ρ t t' w w' hx _ ht hw ⟨hs, e0, e1, e5, g, c, S, hp, e6, k1, k2⟩
  obtain ⟨v0, f0, r0⟩ := ht.get e0
  obtain ⟨v1, f1, r1⟩ := ht.get e1
  obtain ⟨v5, f5, r5⟩ := ht.get e5
  obtain ⟨v6, f6, r6⟩ := ht.get e6
  rw [VR.slA_eq hx hA hd hto r0] at f0
  rw [VR.int_eq r1] at f1
  rw [VR.int_eq r5] at f5
  obtain ⟨g', rfl, hp', hd'⟩ := hp.carry hw r6
  exact ⟨by rw [← ht.1]; exact hs, f0, f1, f5, g', c, S, hp', f6, k1, k2⟩
set_option maxRecDepth 100000 in
set_option maxHeartbeats 4000000 in
theorem z6_wp (l : List Ev) (A : Option Addr) (cap : Nat) (z kk : Int) (x2 x3 x4 x6 x7 x8 x9 x10 x11 x12 x13 x14 x15 x16 x17 x18 x19 x20 x21 x22 x23 x24 x25 x26 x27 x28 x29 x30 x31 x32 x33 x34 x35 x36 x37 x38 : Value) (w : World) (hx : EvA w A l) (h60 : l.length ≤ 60) (hbef : l.Pairwise Bef) :
    (Code.region 6 rz6 false).wp Tryd.prog (fun e a w' => e = .normal ∧ a.defers = [] ∧ RelZ6 A cap l z kk a.tmps w') ⟨#[.slice A l.length cap, .int .i64 z, x2, x3, x4, .int .i64 kk, x6, x7, x8, x9, x10, x11, x12, x13, x14, x15, x16, x17, x18, x19, x20, x21, x22, x23, x24, x25, x26, x27, x28, x29, x30, x31, x32, x33, x34, x35, x36, x37, x38], []⟩ w := by
  have HS : Calls Tryd.prog 5 #[.slice A l.length cap] w fun e w' => ∃ g c S, e = .returned (.slice g S.length c) ∧ PB w' g c S ∧ S.Perm l ∧ S.Pairwise SimPlain.Lt :=
    (rsort_any l A cap w hx h60 hbef).mono fun e w' ⟨S, g, c, he, hp, hl, ho, _⟩ => ⟨g, c, S, he, PB.of_own ho, hp, hl⟩
  have HS1 := Lib.hid HS
  clear HS hx h60 hbef
  simp only [rz6, codeZ6, bodyZ5, bodyZ4, bodyZ2, bodyZ1, bodyZ, Option.getD_some, Tryd.f3]
  generalize hN : l.length = N at *
  have HN := Lib.hid hN
  clear hN
  go_wp2_with fail
  refine HS1.out.mono ?_
  rintro e w2 ⟨g, c, S, rfl, h1, h2, h3⟩
  have H1 := Lib.hid h1
  have H2 := Lib.hid h2
  have H3 := Lib.hid h3
  clear h1 h2 h3
  go_wp2
  obtain rfl := HN.out
  exact ⟨rfl, rfl, rfl, rfl, g, c, S, H1.out, rfl, H2.out, H3.out⟩
end Go.Proofs.YtienepcknafddaaDoor
