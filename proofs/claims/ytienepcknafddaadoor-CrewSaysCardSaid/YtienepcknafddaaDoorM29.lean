/- WALK: gather: round after round, to its return. · PLAIN LAW of the library: the starter's Add(1), in whatever company (no program text in sight). · PLAIN LAW of the library: the starter's Wait, in whatever company (no program text in sight). -/
import Derived.Test.YtienepcknafddaaDoorM28
import Derived.Test.YtienepcknafddaaDoorM22
import Derived.Lib.Hide
set_option linter.unusedVariables false
set_option linter.unusedSimpArgs false
section
set_option linter.unusedVariables false
set_option linter.unusedSimpArgs false
set_option linter.unusedVariables false
set_option linter.unusedSimpArgs false
namespace Go.Proofs.YtienepcknafddaaDoor
open Go Go.RowKit Go.Conc Co Cr SimPlain HeapPlain SymPlain
open Go.ConcM

theorem stepLO {m : Bool} {b : Frame} {a : _root_.Go.Act} {k : List Item} {cs : List Frame} {w : World} : stepG Tryd.prog m (G (b.at a (.code LO :: k)) cs) w = .go (G (b.at a (.code (.seq (.region 1 rg1 false) (.cond (.tmp 11) .skip (.exit 0))) :: .code (.block 1 (.seq (.region 2 rg2 false) (.seq (.seq (.region 3 rg3 false) (.block 2 (.loop LA))) (.seq (.region 9 rg9 false) (.seq (.seq (.region 10 rg10 false) (.block 4 (.loop LB))) (.region 18 rg18 false)))))) :: k)) cs) w #[] := by
  rw [LO_eq]; exact stepG_seq
theorem made_get (v : Value) {n i : Nat} (h : i < n) : (madeCells #[v] n)[i]? = some v := by
  have : i < (madeCells #[v] n).size := by rw [made_size]; exact h
  have h1 := Nat.mod_one i
  simp [madeCells, h, h1]
section
variable {Post : Value → World → Prop} {r : Rts} {w : World} {n0 : Nat} {W0 : Past} {T1 P n cp T3 O m B0 : Nat} {Ws Ms : List (List Ev)} {cls : List Nat} {xs : List Value}
theorem Pl.round (h : Pl Ws) : Pl (roundP Ws) := by
  obtain ⟨h1, h2⟩ := roundP_sorted h.prt h.srt
  have hp := roundP_perm Ws
  exact ⟨h2, h1, by rw [hp.length_eq]; exact h.len, fun e he => h.ok e (hp.mem_iff.1 he)⟩
theorem LBf.out {v5 : Value} (h : LBf n0 W0 r w T1 O m B0 m m cls Ms v5 xs) : ∃ N cap, v5 = .slice (some ⟨N, 0, none⟩) m cap ∧ GaF n0 W0 r (w.setCell ⟨T1, 0, none⟩ v5) T1 N m cap Ms := by
  rcases h.own.2 with ⟨_, e⟩ | ⟨N, cap, cur, e, hN, hcells, _⟩
  · have := h.h0; omega
  · refine ⟨N, cap, e, ?_⟩
    have hbl : v5.ownBlock = some N := by rw [e]; rfl
    have hNT : N ≠ T1 := by have := h.b1; omega
    obtain ⟨g1, l1, c1, e1⟩ := h.c1
    have key : ∀ {A : Addr} {u : Value}, w.cell? A = some u → A.block ≠ T1 → (w.setCell ⟨T1, 0, none⟩ v5).cell? A = some u := fun {A u} hu hA => (World.cell?_of_block (Below.heap_setCell w ⟨T1, 0, none⟩ v5 A.block hA)).trans hu
    have hrow : Cr.Row (w.setCell ⟨T1, 0, none⟩ v5) T1 0 := by
      obtain ⟨x, t, fr, a1, a2, a3⟩ := h.row1
      exact ⟨x.setIfInBounds 0 v5, t, fr, by simp [World.setCell, Array.getElem?_modify, a1], by simpa using a2, a3⟩
    refine ⟨h.hold.set h.ge1 v5, by rw [h.row1.set, e], h.r1, hrow, ⟨(h.rN N hbl).1, fun a ha => ((h.rN N hbl).2 a ha).1⟩, h.gl1, Nat.le_trans h.gl1 (Nat.le_trans (Nat.le_of_lt h.b1) hN), h.ge1, h.lenM, h.h6, h.h0, fun i M eM => ?_, h.pl⟩
    have him : i < m := by rw [← h.lenM]; exact (List.getElem?_eq_some_iff.1 eM).1
    obtain ⟨g, c, hx, hp⟩ := h.got i M him eM
    have hcell := h.own.cells (g := N) (by rw [e]; rfl) i _ hx
    refine ⟨g, c, key (by
      by_cases hi0 : i = 0
      · subst hi0; simpa [Addr.add] using hcell
      · simpa [Addr.add, hi0] using hcell) hNT, hp.set (fun hW b e' => hp.neq hW e' fun _ _ => by rw [e1]; simp) v5⟩
theorem row_alloc {w : World} {B j : Nat} (h : Cr.Row w B j) (o : Obj) : Cr.Row (w.alloc o) B j := by
  obtain ⟨x, t, fr, e, h1⟩ := h
  exact ⟨x, t, fr, (Below.heap_alloc w o B (Array.getElem?_eq_some_iff.1 e).1).trans e, h1⟩
theorem cell_alloc {w : World} {A : Addr} {v : Value} (h : w.cell? A = some v) (o : Obj) : (w.alloc o).cell? A = some v :=
  (World.cell?_of_block (Below.heap_alloc w o A.block (cell_lt h))).trans h
set_option maxRecDepth 100000 in
set_option maxHeartbeats 8000000 in
theorem gather_last {cs : List Frame} {Fl : List Ev} {t : Array Value}
    (cont : ∀ (t : Array Value) (todo : List Item) (r : Rts) (w : World) (g : Option Addr) (c : Nat) (L : List Ev), Hold n0 W0 r w → PA r w g c L → L.Perm Fl → L.Pairwise SimPlain.Lt → t.size = 47 → t[2]? = some (.slice g L.length c) → ME Tryd.prog wgL.tWg Post (.chs []) 0 r (G { (base 17).at ⟨t, []⟩ todo with mode := .returning } cs) w)
    (F : GaF n0 W0 r w T1 P 1 cp Ws) (hfl : Ws.flatten.Perm Fl) (hs : t.size = 47) (h1 : t[1]? = some (.pointer (some ⟨T1, 0, none⟩))) :
    ME Tryd.prog wgL.tWg Post (.chs []) 0 r (G ((base 17).at ⟨t, []⟩ [.code (.region 19 rg19 false), .code .ret]) cs) w := by
  obtain ⟨x0, x1, x2, x3, x4, x5, x6, x7, x8, x9, x10, x11, x12, x13, x14, x15, x16, x17, x18, x19, x20, x21, x22, x23, x24, x25, x26, x27, x28, x29, x30, x31, x32, x33, x34, x35, x36, x37, x38, x39, x40, x41, x42, x43, x44, x45, x46, rfl⟩ := arr47 hs
  obtain rfl : x1 = _ := by simpa using h1
  clear hs h1
  simp only [rg19, Tryd.f17]
  have hF : KW r ((Sg.chs []).iv wgL.tWg) w w := ⟨Rely.refl _ _, trivial⟩
  refine me_run (m := 1) rfl trivial ?_
  w_go kw_rely
  refine Goes.stop (fun w₁ h₁ => ?_)
  replace hF := kw_rely hF h₁
  replace F := F.rely hF.1
  clear h₁ hF
  refine me_ld rfl rfl (by decide) loud13 rfl (ld35 rfl rfl) F.h1 (F.r1.2 _ rfl) ?_
  walk_nrm
  have hF : KW r ((Sg.chs []).iv wgL.tWg) w₁ w₁ := ⟨Rely.refl _ _, trivial⟩
  refine me_run (m := 1) rfl trivial ?_
  w_go kw_rely
  refine Goes.stop (fun w₁ h₁ => ?_)
  replace hF := kw_rely hF h₁
  replace F := F.rely hF.1
  clear h₁ hF
  obtain ⟨W, rfl⟩ : ∃ W, Ws = [W] := List.length_eq_one_iff.1 F.len
  obtain ⟨g, c, hc, hp⟩ := F.part 0 W rfl
  refine me_ld rfl rfl (by decide) loud13 rfl (ld22 rfl rfl) hc (F.rP.2 _ rfl) ?_
  walk_nrm
  have hF : KW r ((Sg.chs []).iv wgL.tWg) w₁ w₁ := ⟨Rely.refl _ _, trivial⟩
  refine me_run (m := 3) rfl trivial ?_
  w_go kw_rely
  w_go kw_rely
  w_go kw_rely
  refine Goes.stop (fun w₁ h₁ => ?_)
  replace hF := kw_rely hF h₁
  exact cont _ _ r _ g c W (F.hold.rely hF.1) (hp.rely hF.1) (by simpa using hfl) (F.pl.srt W (by simp)) rfl rfl
set_option maxRecDepth 100000 in
set_option maxHeartbeats 8000000 in
theorem gather_make {Rst : Code} {K : List Item} {cs : List Frame} {t : Array Value} (hm : m = (n + 1) / 2) (h2 : 2 ≤ n) (F : GaF n0 W0 r w T1 P n cp Ws) (hs : t.size = 47) (h1 : t[1]? = some (.pointer (some ⟨T1, 0, none⟩)))
    (cont : ∀ (t : Array Value) (r : Rts) (w : World) (T3 O : Nat), LAf n0 W0 r w T1 P n cp Ws T3 O m 0 [] → S47 t T1 T3 → t[18]? = some (.int .i64 m) → t[19]? = some (.int .i64 (0 : Nat)) → ME Tryd.prog wgL.tWg Post (.chs []) 0 r (G ((base 17).at ⟨t, []⟩ (.code LA :: .inLoop LA :: .inBlock 2 :: .code Rst :: K)) cs) w) :
    ME Tryd.prog wgL.tWg Post (.chs []) 0 r (G ((base 17).at ⟨t, []⟩ (.code (.region 2 rg2 false) :: .code (.seq (.seq (.region 3 rg3 false) (.block 2 (.loop LA))) Rst) :: K)) cs) w := by
  have h6 := F.h6
  obtain ⟨x0, x1, x2, x3, x4, x5, x6, x7, x8, x9, x10, x11, x12, x13, x14, x15, x16, x17, x18, x19, x20, x21, x22, x23, x24, x25, x26, x27, x28, x29, x30, x31, x32, x33, x34, x35, x36, x37, x38, x39, x40, x41, x42, x43, x44, x45, x46, rfl⟩ := arr47 hs
  obtain rfl : x1 = _ := by simpa using h1
  clear hs h1
  simp only [rg2, rg3, q1, qLO, Tryd.f17]
  have hF : KW r ((Sg.chs []).iv wgL.tWg) w w := ⟨Rely.refl _ _, trivial⟩
  refine me_run (m := 1) rfl trivial ?_
  w_go kw_rely
  refine Goes.stop (fun w₁ h₁ => ?_)
  replace hF := kw_rely hF h₁
  replace F := F.rely hF.1
  clear h₁ hF
  refine me_ld rfl rfl (by decide) loud13 rfl (ld35 rfl rfl) F.h1 (F.r1.2 _ rfl) ?_
  walk_nrm
  have hm1 : 1 ≤ m := by omega
  have hm6 : m ≤ 6 := by omega
  have e1 : IntKind.i64.wrap ((n : Int) + 1) = (n : Int) + 1 := by rw [IntKind.wrap_i64]; omega
  have d1 : ((n : Int) + 1).tdiv 2 = (m : Int) := by
    rw [Int.tdiv_eq_ediv_of_nonneg (by omega)]; omega
  have d2 : ((n : Int) + 1) / 2 = (m : Int) := by omega
  have HM := Lib.hid hm
  have e2 : IntKind.i64.wrap (m : Int) = (m : Int) := by rw [IntKind.wrap_i64]; omega
  clear hm
  have hF : KW r ((Sg.chs []).iv wgL.tWg) w₁ w₁ := ⟨Rely.refl _ _, trivial⟩
  refine me_run (m := 3) rfl trivial ?_
  w_go kw_rely
  w_go kw_rely
  w_go kw_rely
  refine Goes.stop (fun w₁ h₁ => ?_)
  replace hF := kw_rely hF h₁
  replace F := F.rely hF.1
  clear h₁ hF
  refine me_al (f := fun x => .slice (some ⟨x, 0, none⟩) m m) rfl rfl (by decide) loud13 (mk68 (by omega) rfl rfl) fun wa ha _ => ?_
  walk_nrm
  refine me_al (f := fun x => .pointer (some ⟨x, 0, none⟩)) rfl rfl (by decide) loud13 (al68 rfl) fun wc hc _ => ?_
  walk_nrm
  have hrow3 : Cr.Row (wc.alloc (.cells #[.slice none 0 0] 71 (0, 0))) wc.heap.size 0 := ⟨_, _, _, alloc_here _ _, by simp, by simp⟩
  refine me_st rfl rfl (by decide) loud13 (st68 (g := some ⟨wa.heap.size, 0, none⟩) (n := m) (c := m) rfl rfl rfl) hrow3 (new_rd_cell rfl) (new_wr_cell rfl) fun we he => ?_
  walk_nrm
  have hsz : wa.heap.size < wc.heap.size := by
    have := hc.size
    simp at this; omega
  have hne : wa.heap.size ≠ wc.heap.size := by omega
  have hrowO : ∀ j, j < m → Cr.Row (wa.alloc (.cells (madeCells #[.chan none] m) 72 (0, 0))) wa.heap.size j := fun j hj => ⟨_, _, _, alloc_here _ _, by rw [made_size]; exact hj, by simp⟩
  have hcO : (wa.alloc (.cells (madeCells #[.chan none] m) 72 (0, 0))).cell? ⟨wa.heap.size, 0, none⟩ = some (.chan none) := by
    unfold World.cell?; simp only [alloc_here]; simp [made_get (.chan none) hm1]
  have hroO : RdB ((r.new wa.heap.size (wa.heap.size + 1)).new wc.heap.size (wc.heap.size + 1)) wa.heap.size := ⟨.inl new_rd_obj, fun a ha => .inl (new_rd_cell ha)⟩
  have key : ∀ {A : Addr} {u : Value}, we.cell? A = some u → A.block ≠ wc.heap.size → (we.setCell ⟨wc.heap.size, 0, none⟩ (.slice (some ⟨wa.heap.size, 0, none⟩) m m)).cell? A = some u := fun {A u} hu hA => (World.cell?_of_block (Below.heap_setCell we ⟨wc.heap.size, 0, none⟩ _ A.block hA)).trans hu
  have krow : ∀ {Y j : Nat}, Cr.Row we Y j → Y ≠ wc.heap.size → Cr.Row (we.setCell ⟨wc.heap.size, 0, none⟩ (.slice (some ⟨wa.heap.size, 0, none⟩) m m)) Y j := fun {Y j} ⟨x, t, fr, e, h1⟩ hA => ⟨x, t, fr, (Below.heap_setCell we ⟨wc.heap.size, 0, none⟩ _ Y hA).trans e, h1⟩
  have hT1 : T1 < wa.heap.size := Nat.lt_of_lt_of_le (cell_lt F.h1) ha.size
  have FL : LAf n0 W0 ((r.new wa.heap.size (wa.heap.size + 1)).new wc.heap.size (wc.heap.size + 1)) (we.setCell ⟨wc.heap.size, 0, none⟩ (.slice (some ⟨wa.heap.size, 0, none⟩) m m)) T1 P n cp Ws wc.heap.size wa.heap.size m 0 [] := by
    refine ⟨((F.rely (rely_set ((rely_alloc ((rely_alloc ha _).trans (rely_of_new hc)) _).trans (rely_of_new (rely_of_new he))) (Nat.le_trans ha.size (Nat.le_of_lt hsz)) _)).new _ _).new _ _, (hrow3.rely he).set _, ⟨new_rd_obj, fun a ha => new_rd_cell ha⟩, hroO, Nat.le_trans F.gl1 (by omega), Nat.le_trans F.ge (Nat.le_of_lt hT1), fun j hj => krow ((row_alloc ((hrowO j hj).rely hc) _).rely he) hne, fun j _ hj => .inl (new_wr_cell rfl), ⟨none, key (he.cell (cell_alloc (hc.cell hcO (new_rd_cell rfl)) _) (hroO.2 _ rfl)) hne⟩, rfl, (fun i c e => by cases e), Nat.zero_le _, HM.out⟩
  generalize we.setCell ⟨wc.heap.size, 0, none⟩ (.slice (some ⟨wa.heap.size, 0, none⟩) m m) = w2 at FL
  generalize (r.new wa.heap.size (wa.heap.size + 1)).new wc.heap.size (wc.heap.size + 1) = r2 at FL
  generalize wa.heap.size = O at FL
  generalize wc.heap.size = T3 at FL
  have hpl := True.intro
  clear F ha hc he hrow3 hsz hne hrowO hcO hroO key krow hT1 e1 d1 d2
  have hF : KW r2 ((Sg.chs []).iv wgL.tWg) w2 w2 := ⟨Rely.refl _ _, trivial⟩
  refine me_run (m := 6) rfl trivial ?_
  repeat w_go kw_rely
  refine Goes.stop (fun w₁ h₁ => ?_)
  replace hF := kw_rely hF h₁
  replace FL := FL.rely hF.1
  clear h₁ hF
  refine me_ld rfl rfl (by decide) loud13 rfl (ld68 rfl rfl) FL.h3 (FL.r3.2 _ rfl) ?_
  walk_nrm
  have hF : KW r2 ((Sg.chs []).iv wgL.tWg) w₁ w₁ := ⟨Rely.refl _ _, trivial⟩
  refine me_run (m := 8) rfl trivial ?_
  repeat w_go kw_rely
  refine Goes.stop (fun w₁ h₁ => ?_)
  replace hF := kw_rely hF h₁
  replace FL := FL.rely hF.1
  clear h₁ hF
  exact cont _ r2 _ T3 O FL ⟨rfl, rfl, rfl⟩ rfl rfl
set_option maxRecDepth 100000 in
set_option maxHeartbeats 8000000 in
theorem gather_hear {K : List Item} {cs : List Frame} {t : Array Value} (F : LAf n0 W0 r w T1 P n cp Ws T3 O m m cls) (hS : S47 t T1 T3)
    (cont : ∀ (t : Array Value) (r : Rts) (w : World) (N cap : Nat), GaF n0 W0 r w T1 N m cap (roundP Ws) → t.size = 47 → t[1]? = some (.pointer (some ⟨T1, 0, none⟩)) → ME Tryd.prog wgL.tWg Post (.chs []) 0 r (G ((base 17).at ⟨t, []⟩ K) cs) w) :
    ME Tryd.prog wgL.tWg Post (.chs (chsOf cls (roundP Ws))) 0 r (G ((base 17).at ⟨t, []⟩ (.code (.seq (.region 9 rg9 false) (.seq (.seq (.region 10 rg10 false) (.block 4 (.loop LB))) (.region 18 rg18 false))) :: K)) cs) w := by
  obtain ⟨x0, x1, x2, x3, x4, x5, x6, x7, x8, x9, x10, x11, x12, x13, x14, x15, x16, x17, x18, x19, x20, x21, x22, x23, x24, x25, x26, x27, x28, x29, x30, x31, x32, x33, x34, x35, x36, x37, x38, x39, x40, x41, x42, x43, x44, x45, x46, rfl⟩ := arr47 hS.size
  obtain rfl : x1 = _ := by simpa using hS.t1
  obtain rfl : x3 = _ := by simpa using hS.t3
  clear hS
  have hpl := F.ga.pl.round
  simp only [rg9, rg10, q1, qLO, Tryd.f17]
  have hF : KW r ((Sg.chs (chsOf cls (roundP Ws))).iv wgL.tWg) w w := ⟨Rely.refl _ _, trivial⟩
  refine me_run (m := 12) rfl trivial ?_
  repeat w_go kw_rely
  refine Goes.stop (fun w₁ h₁ => ?_)
  replace hF := kw_rely hF h₁
  replace F := F.rely hF.1
  clear h₁ hF
  refine me_ld rfl rfl (by decide) loud13 rfl (ld68 rfl rfl) F.h3 (F.r3.2 _ rfl) ?_
  walk_nrm
  have hF : KW r ((Sg.chs (chsOf cls (roundP Ws))).iv wgL.tWg) w₁ w₁ := ⟨Rely.refl _ _, trivial⟩
  refine me_run (m := 12) rfl trivial ?_
  repeat w_go kw_rely
  refine Goes.stop (fun w₁ h₁ => ?_)
  replace hF := kw_rely hF h₁
  replace F := F.rely hF.1
  clear h₁ hF
  refine loopB (fun t r w v5 xs FB hs h1 h5 => ?_) m 0 _ r _ (.slice none 0 0) [] (by omega) (F.toB hpl) rfl rfl rfl rfl rfl rfl
  clear F
  obtain ⟨x0, x1, x2, x3, x4, x5, x6, x7, x8, x9, x10, x11, x12, x13, x14, x15, x16, x17, x18, x19, x20, x21, x22, x23, x24, x25, x26, x27, x28, x29, x30, x31, x32, x33, x34, x35, x36, x37, x38, x39, x40, x41, x42, x43, x44, x45, x46, rfl⟩ := arr47 hs
  obtain rfl : x1 = _ := by simpa using h1
  obtain rfl : x5 = _ := by simpa using h5
  clear hs h1 h5
  simp only [rg18, q1, qLO, Tryd.f17]
  have hF : KW r ((Sg.chs []).iv wgL.tWg) w w := ⟨Rely.refl _ _, trivial⟩
  refine me_run (m := 2) rfl trivial ?_
  w_go kw_rely
  w_go kw_rely
  refine Goes.stop (fun w₁ h₁ => ?_)
  replace hF := kw_rely hF h₁
  replace FB := FB.rely hF.1
  clear h₁ hF
  obtain ⟨N, cap, hv, _⟩ := FB.out
  subst hv
  refine me_st rfl rfl (by decide) loud13 (st35 (g := some ⟨N, 0, none⟩) (n := m) (c := cap) rfl rfl rfl) FB.row1 (FB.r1.2 _ rfl) (FB.full rfl _ (FB.r1.2 _ rfl)) fun we he => ?_
  walk_nrm
  obtain ⟨N', cap', hv, FG⟩ := (FB.rely he).out
  simp only [Value.slice.injEq, Option.some.injEq, Addr.mk.injEq, and_true, true_and] at hv
  obtain ⟨rfl, rfl⟩ := hv
  clear FB he
  generalize we.setCell ⟨T1, 0, none⟩ (.slice (some ⟨N, 0, none⟩) m cap) = w2 at FG
  have hF : KW r ((Sg.chs []).iv wgL.tWg) w2 w2 := ⟨Rely.refl _ _, trivial⟩
  refine me_run (m := 1) rfl trivial ?_
  w_go kw_rely
  refine Goes.stop (fun w₁ h₁ => ?_)
  replace hF := kw_rely hF h₁
  exact cont _ r _ N cap (FG.rely hF.1) rfl rfl
set_option maxRecDepth 100000 in
set_option maxHeartbeats 8000000 in
theorem gather_rounds {cs : List Frame} {Fl : List Ev}
    (cont : ∀ (t : Array Value) (todo : List Item) (r : Rts) (w : World) (g : Option Addr) (c : Nat) (L : List Ev), Hold n0 W0 r w → PA r w g c L → L.Perm Fl → L.Pairwise SimPlain.Lt → t.size = 47 → t[2]? = some (.slice g L.length c) → ME Tryd.prog wgL.tWg Post (.chs []) 0 r (G { (base 17).at ⟨t, []⟩ todo with mode := .returning } cs) w) :
    ∀ (d n : Nat) (t : Array Value) (r : Rts) (w : World) (P cp : Nat) (Ws : List (List Ev)), n ≤ d → GaF n0 W0 r w T1 P n cp Ws → Ws.flatten.Perm Fl → t.size = 47 → t[1]? = some (.pointer (some ⟨T1, 0, none⟩)) →
      ME Tryd.prog wgL.tWg Post (.chs []) 0 r (G ((base 17).at ⟨t, []⟩ (.code LO :: .inLoop LO :: .inBlock 0 :: [.code (.seq (.region 19 rg19 false) .ret)])) cs) w := by
  intro d
  induction d with
  | zero => intro n t r w P cp Ws hn F _; have := F.h0; omega
  | succ d ih =>
    intro n t r w P cp Ws hn F hfl hs h1
    have h6 := F.h6
    have h0 := F.h0
    obtain ⟨x0, x1, x2, x3, x4, x5, x6, x7, x8, x9, x10, x11, x12, x13, x14, x15, x16, x17, x18, x19, x20, x21, x22, x23, x24, x25, x26, x27, x28, x29, x30, x31, x32, x33, x34, x35, x36, x37, x38, x39, x40, x41, x42, x43, x44, x45, x46, rfl⟩ := arr47 hs
    obtain rfl : x1 = _ := by simpa using h1
    clear hs h1
    refine me_ctl rfl (fun _ => stepLO) ?_
    simp only [rg1, qLO, Tryd.f17]
    have hF : KW r ((Sg.chs []).iv wgL.tWg) w w := ⟨Rely.refl _ _, trivial⟩
    refine me_run (m := 2) rfl trivial ?_
    w_go kw_rely
    w_go kw_rely
    refine Goes.stop (fun w₁ h₁ => ?_)
    replace hF := kw_rely hF h₁
    replace F := F.rely hF.1
    clear h₁ hF
    refine me_ld rfl rfl (by decide) loud13 rfl (ld35 rfl rfl) F.h1 (F.r1.2 _ rfl) ?_
    walk_nrm
    have hF : KW r ((Sg.chs []).iv wgL.tWg) w₁ w₁ := ⟨Rely.refl _ _, trivial⟩
    by_cases hn1 : n = 1
    · subst hn1
      have hgt : ¬ ((1 : Int) < ((1 : Nat) : Int)) := by omega
      refine me_run (m := 8) rfl trivial ?_
      w_go kw_rely
      w_go kw_rely
      w_go kw_rely
      w_go kw_rely
      w_go kw_rely
      w_go kw_rely
      refine Goes.stop (fun w₁ h₁ => ?_)
      replace hF := kw_rely hF h₁
      replace F := F.rely hF.1
      clear h₁ hF
      exact gather_last cont F hfl rfl rfl
    · have hgt : ((1 : Int) < (n : Int)) := by omega
      refine me_run (m := 14) rfl trivial ?_
      w_go kw_rely
      w_go kw_rely
      w_go kw_rely
      w_go kw_rely
      w_go kw_rely
      w_go kw_rely
      w_go kw_rely
      refine Goes.stop (fun w₁ h₁ => ?_)
      replace hF := kw_rely hF h₁
      replace F := F.rely hF.1
      clear h₁ hF
      obtain ⟨m, hm⟩ : ∃ m, m = (n + 1) / 2 := ⟨_, rfl⟩
      have hmd : m ≤ d := by omega
      have HM := Lib.hid hm
      refine gather_make hm (by omega) F ?_ ?_ fun t r w T3 O FL hS h18 h19 => ?_
      · rfl
      · rfl
      refine loopA (fun t r w cls FL hS => ?_) m 0 t r w [] (by omega) FL hS h18 h19
      clear hm hgt h18 h19
      refine gather_hear FL hS fun t r w N cap FG hs h1 => ?_
      have hF : KW r ((Sg.chs []).iv wgL.tWg) w w := ⟨Rely.refl _ _, trivial⟩
      refine me_run (m := 2) rfl trivial ?_
      w_go kw_rely
      w_go kw_rely
      refine Goes.stop (fun w₁ h₁ => ?_)
      replace hF := kw_rely hF h₁
      exact ih m t r _ N cap (roundP Ws) hmd (FG.rely hF.1) ((roundP_perm Ws).trans hfl) hs h1
end
end Go.Proofs.YtienepcknafddaaDoor
end

section
namespace Cr
open Go Go.Conc Go.RowKit Go.Conc.Lib Go.ConcR.Gen Go.ConcN.Gen
open Go.ConcR (KK wgBlock WgAt stA smA rd wr mk DC0)
open Go.ConcN (WgLive ShN)
section
variable {P : Program} {L : WgLink} {Post : Value → World → Prop} {Wg : Nat} {js : List Jb} {st : WSt} {r : Rts} {d : Nat}
variable (P L Post Wg js st d r) in
def MS (g : Goroutine) (w : World) : Prop := g.status = .running ∧ ∃ g' w' es, stepG P true g w = .go g' w' es ∧ Guar r (ShN Wg) true w w' es ∧ ME P L.tWg Post (.wg Wg js st) d (r.new w.heap.size w'.heap.size) g' w'
variable (P L Post Wg js st d r) in
def MDis (g : Goroutine) (w : World) : Prop := g.status = .running ∧ ∃ g', stepG P true g w = .go g' w #[mk .disable] ∧ ME P L.tWg Post (.wg Wg js st) (d + 1) r g' w
variable (P L Post Wg js st d r) in
def MEn (g : Goroutine) (w : World) : Prop := g.status = .running ∧ ∃ g', stepG P true g w = .go g' w #[mk .enable] ∧ ME P L.tWg Post (.wg Wg js st) d r g' w
variable (P L Post Wg js d r) in
def MAdd (g : Goroutine) (w : World) : Prop := g.status = .running ∧ ∀ v : Nat, v < 2147483647 → WgAt L.tWg Wg w (v * KK) 0 → ∃ g', stepG P true g w = .go g' (w.setCell (stA Wg) (.int .u64 ((v + 1) * KK))) #[rd (stA Wg), wr (stA Wg)] ∧ ME P L.tWg Post (.wg Wg js .pend) d r g' (w.setCell (stA Wg) (.int .u64 ((v + 1) * KK)))
theorem me_s {m : Nat} {g : Goroutine} {w : World} (hr : g.status = .running) (hi : WgLive L.tWg Wg w) (h : Goes P true (RR r (WgLive L.tWg Wg)) DC0 (MS P L Post Wg js st r d) m g w) : ME P L.tWg Post (.wg Wg js st) d r g w :=
  ME.goes (σ := .wg Wg js st) (fun _ _ h => h.1) (fun _ _ hr _ h => ME.silent hr fun w1 a b => (h w1 ⟨a, b⟩).2) m g w hr hi h
theorem me_dis {m : Nat} {g : Goroutine} {w : World} (hr : g.status = .running) (hi : WgLive L.tWg Wg w) (h : Goes P true (RR r (WgLive L.tWg Wg)) DC0 (MDis P L Post Wg js st r d) m g w) : ME P L.tWg Post (.wg Wg js st) d r g w :=
  ME.goes (σ := .wg Wg js st) (fun _ _ h => h.1) (fun _ _ hr _ h => ME.dis hr fun w1 a b => (h w1 ⟨a, b⟩).2) m g w hr hi h
theorem me_en {m : Nat} {g : Goroutine} {w : World} (hr : g.status = .running) (hi : WgLive L.tWg Wg w) (h : Goes P true (RR r (WgLive L.tWg Wg)) DC0 (MEn P L Post Wg js st r d) m g w) : ME P L.tWg Post (.wg Wg js st) (d + 1) r g w :=
  ME.goes (σ := .wg Wg js st) (fun _ _ h => h.1) (fun _ _ hr _ h => ME.en hr fun w1 a b => (h w1 ⟨a, b⟩).2) m g w hr hi h
theorem me_add' {m n : Nat} {g : Goroutine} {w : World} (hl : js.length < 1000) (hr : g.status = .running) (hi : WgLive L.tWg Wg w) (h : Goes P true (RR r (WgLive L.tWg Wg)) DC0 (MAdd P L Post Wg js r d) m g w) : ME P L.tWg Post (.wg Wg js (.idle n)) d r g w :=
  ME.goes (σ := .wg Wg js (.idle n)) (fun _ _ h => h.1) (fun _ _ hr _ h => ME.add hr hl fun w1 a v b c => (h w1 ⟨a, _, _, c⟩).2 v b c) m g w hr hi h
theorem rely_wg {w : World} {a : Addr} (ha : a.block = Wg) (hn : ∀ off, ¬ r.rd (.cell ⟨Wg, off, none⟩)) (v : Value) : Rely r w (w.setCell a v) := Turn.setCell w a v (by rw [ha]; exact hn _)
/-- what the starter says to the race detector of the group's cells -/
theorem guar_said {a : Addr} (ha : a.block = Wg) (w : World) (hw : WgLive L.tWg Wg w) (m : Mark) (hm : m = .read a ∨ m = .write a) : Guar r (ShN Wg) true w w #[⟨.mark m, false, true⟩] := by
  refine ⟨Turn.refl _ _, fun e he => ?_⟩
  simp at he
  subst he
  have hlt := live_lt hw
  rcases hm with rfl | rfl
  · refine ⟨fun b hb _ => ?_, by simp, by simp, by simp, by show a.block < _; omega⟩
    simp only [MemAct.ofEvent, MemAct.touch?, Option.some.injEq] at hb
    subst hb
    exact .inl ⟨⟨a, rfl, ha⟩, by simp, fun _ => rfl⟩
  · refine ⟨fun b hb _ => ?_, by simp, by simp, by simp, by show a.block < _; omega⟩
    simp only [MemAct.ofEvent, MemAct.touch?, Option.some.injEq] at hb
    subst hb
    exact .inl ⟨⟨a, rfl, ha⟩, by simp, fun _ => rfl⟩
set_option maxRecDepth 100000 in
set_option maxHeartbeats 8000000 in
theorem me_add (H : WgLib P L) {b₀ : Frame} {a₀ : _root_.Go.Act} {ops₀ : Array Oper} {i₀ : Nat} {rest₀ : List Nat} {k₀ : List Item} {cs : List Frame} {n : Nat} {w : World} (hl : js.length < 1000) (hn : ∀ off, ¬ r.rd (.cell ⟨Wg, off, none⟩))
    (hT : ME P L.tWg Post (.wg Wg js .pend) 0 r (G (b₀.at (a₀.put ((ops₀[i₀]?).bind (·.dst)) (.tuple #[])) (.inRegion ops₀ rest₀ :: k₀)) cs) w) (hW : WgLive L.tWg Wg w) :
    ME P L.tWg Post (.wg Wg js (.idle n)) 0 r (G ((base L.add).at ⟨#[.pointer (some ⟨Wg, 0, none⟩), .int .i64 1] ++ Array.replicate ((addFn L).ntmps - 2) undef, []⟩ [.code (body_add L)]) (b₀.at a₀ (.inRegion ops₀ (i₀ :: rest₀) :: k₀) :: cs)) w := by
  lib_facts
  have hF : KW r (WgLive L.tWg Wg) w w := ⟨Rely.refl _ _, hW⟩
  simp only [body_add, Option.getD_some]
  refine me_dis (m := 40) rfl hF.2 ?_
  walk_nrmf addFn
  repeat w_go kw_rely
  refine Goes.stop (fun w₁ h₁ => ?_)
  replace hF := kw_rely hF h₁
  clear h₁
  refine ⟨rfl, _, stepG_mark0 .disable (by simp) rfl rfl (by k_ne) rfl H.f_disable (x_disable_n L) (x_disable_b L) (x_disable_x L) (x_disable_f L), ?_⟩
  walk_nrm
  refine me_add' (m := 60) hl rfl hF.2 ?_
  repeat w_go kw_rely
  u_defer kw_rely hF
  repeat w_go kw_rely
  u_bub kw_rely hF
  repeat w_go kw_rely
  u_call H.f_uAdd (nm_uAdd L) uAddFn kw_rely hF
  repeat w_go kw_rely
  refine Goes.stop (fun w₂ h₂ => ?_)
  replace hF := kw_rely hF h₂
  clear h₂
  refine ⟨rfl, fun v hv hw => ?_⟩
  rcases Nat.eq_zero_or_pos v with rfl | hvp
  · -- the count is now 1
    replace hw : WgAt L.tWg Wg w₂ 0 0 := by simpa using hw
    have z : (((0 : Nat) : Int) + 1) * KK = KK := by simp
    rw [z]
    have e0 : IntKind.u64.wrap (0 + 4294967296) = KK := by decide
    refine ⟨_, (stepG_add_atomic rfl rfl (by k_ne) rfl H.f_addU64 (x_addU64_n L) (x_addU64_b L) (x_addU64_x L) .u64 (x_addU64_f L) rfl rfl hw.cellSt (hw.thaw 0)).trans (by rw [e0]; rfl), ?_⟩
    replace hF : KW r (WgLive L.tWg Wg) w (w₂.setCell (stA Wg) (.int .u64 KK)) := ⟨hF.1.trans (rely_wg rfl hn _), _, _, hw.setSt _⟩
    clear hw
    simp only [KK] at hF ⊢
    walk_nrm
    refine me_s (m := 110) rfl hF.2 ?_
    repeat w_go kw_rely
    u_leave1 H.f_uAdd kw_rely hF
    repeat w_go kw_rely
    u_conv H.underlying_tPU32 H.room_tU32 (WgLive.cell1 hF.2).choose_spec kw_rely hF
    refine Goes.stop (fun w₃ h₃ => ?_)
    replace hF := kw_rely hF h₃
    clear h₃
    refine ⟨rfl, _, _, _, stepG_markAt .read (by simp) rfl rfl (by k_ne) rfl H.f_raceRead (x_raceRead_n L) (x_raceRead_b L) (x_raceRead_x L) (x_raceRead_f L) (ad := ⟨Wg, 1, none⟩) (by simp [Act.eval]), guar_said (a := ⟨Wg, 1, none⟩) rfl _ hF.2 _ (.inl rfl), ?_⟩
    rw [new_self]
    walk_nrm
    refine me_en (m := 110) rfl hF.2 ?_
    repeat w_go kw_rely
    refine Goes.stop (fun w₄ h₄ => ?_)
    replace hF := kw_rely hF h₄
    clear h₄
    refine ⟨rfl, _, stepG_unwind_entry (v := .tuple #[]) (evs := #[mk .enable]) rfl H.f_enable (x_enable_n L) (x_enable_b L) (x_enable_x L) (x_enable_f L) (by simp [Extern.Race.none_]) (by simp [mk]) (by simp [mk]), ?_⟩
    refine ME.goes_to (m := 1) (hT.rely hF.1) rfl hF.2 ?_
    replace hF : KW r (WgLive L.tWg Wg) w₄ w₄ := ⟨Rely.refl _ _, hF.2⟩
    u_leave0 H.f_add kw_rely hF
    exact Goes.stop fun w₅ h₅ => ⟨rfl, (kw_rely hF h₅).1⟩
  · -- it is more
    obtain ⟨V, hV⟩ : ∃ V : Int, V = (v : Int) + 1 := ⟨_, rfl⟩
    obtain ⟨S, hS⟩ : ∃ S : Int, S = V * KK := ⟨_, rfl⟩
    have eS : IntKind.u64.wrap ((v : Int) * KK + 4294967296) = S := by rw [IntKind.wrap_u64, hS, hV]; simp only [KK]; omega
    rw [← hV, ← hS]
    have a1 : S / 4294967296 = V := by rw [hS]; simp only [KK]; omega
    have b1 : bits .and .u64 S 2147483648 = 0 := by rw [hS, hV]; have := Go.ConcN.st_flag (v + 1) 0 (by omega) (by omega); simpa [KK] using this
    have b2 : bits .and .u64 S 2147483647 = 0 := by rw [hS, hV]; have := Go.ConcN.st_waiters (v + 1) 0 (by omega) (by omega); simpa [KK] using this
    have c1 : IntKind.i32.wrap V = V := by rw [IntKind.wrap_i32]; omega
    have q1 : (V == 1) = false := by simp; omega
    have q2 : decide (V = 1) = false := decide_eq_false (by omega)
    have q3 : decide (V < 0) = false := decide_eq_false (by omega)
    have q4 : decide (0 < V) = true := decide_eq_true (by omega)
    have q5 : (V == 0) = false := by simp; omega
    have q6 : decide (V = 0) = false := decide_eq_false (by omega)
    refine ⟨_, (stepG_add_atomic rfl rfl (by k_ne) rfl H.f_addU64 (x_addU64_n L) (x_addU64_b L) (x_addU64_x L) .u64 (x_addU64_f L) rfl rfl hw.cellSt (hw.thaw 0)).trans (by rw [eS]; rfl), ?_⟩
    replace hF : KW r (WgLive L.tWg Wg) w (w₂.setCell (stA Wg) (.int .u64 S)) := ⟨hF.1.trans (rely_wg rfl hn _), _, _, hw.setSt _⟩
    clear hw hS hV eS
    walk_nrm
    refine me_en (m := 160) rfl hF.2 ?_
    repeat w_go kw_rely
    u_leave1 H.f_uAdd kw_rely hF
    repeat w_go kw_rely
    refine Goes.stop (fun w₄ h₄ => ?_)
    replace hF := kw_rely hF h₄
    clear h₄
    refine ⟨rfl, _, stepG_unwind_entry (v := .tuple #[]) (evs := #[mk .enable]) rfl H.f_enable (x_enable_n L) (x_enable_b L) (x_enable_x L) (x_enable_f L) (by simp [Extern.Race.none_]) (by simp [mk]) (by simp [mk]), ?_⟩
    refine ME.goes_to (m := 1) (hT.rely hF.1) rfl hF.2 ?_
    replace hF : KW r (WgLive L.tWg Wg) w₄ w₄ := ⟨Rely.refl _ _, hF.2⟩
    u_leave0 H.f_add kw_rely hF
    exact Goes.stop fun w₅ h₅ => ⟨rfl, (kw_rely hF h₅).1⟩
end
end Cr
end

section
namespace Cr
open Go Go.Conc Go.RowKit Go.Conc.Lib Go.ConcR.Gen Go.ConcN.Gen
open Go.ConcR (KK wgBlock WgAt stA smA rd wr mk DC0)
open Go.ConcN (WgLive ShN)
section
variable {P : Program} {L : WgLink} {Post : Value → World → Prop} {Wg : Nat} {js : List Jb} {st : WSt} {r : Rts} {d : Nat}
variable (P L Post Wg js d r) in
def MLoad (n : Nat) (g : Goroutine) (w : World) : Prop := g.status = .running ∧ ∀ v : Nat, v < 2147483648 → v ≤ n → WgAt L.tWg Wg w (v * KK) 0 → ∃ g', stepG P true g w = .go g' w #[rd (stA Wg)] ∧ (v = 0 → ME P L.tWg Post (.wg Wg js .thru) d r g' w) ∧ (v ≠ 0 → ME P L.tWg Post (.wg Wg js (.seen v)) d r g' w)
variable (P L Post Wg js d r) in
def MCas (vs : Nat) (g : Goroutine) (w : World) : Prop := g.status = .running ∧ ∀ v : Nat, v < 2147483648 → WgAt L.tWg Wg w (v * KK) 0 → ∃ g', (v = vs → stepG P true g w = .go g' (w.setCell (stA Wg) (.int .u64 (v * KK + 1))) #[rd (stA Wg), wr (stA Wg)] ∧ ME P L.tWg Post (.wg Wg js .slept) d r g' (w.setCell (stA Wg) (.int .u64 (v * KK + 1)))) ∧ (v < vs → stepG P true g w = .go g' w #[rd (stA Wg)] ∧ ME P L.tWg Post (.wg Wg js (.idle v)) d r g' w)
variable (P L Post Wg js d r) in
def MPark (g : Goroutine) (w : World) : Prop := g.status = .running ∧ g.offers = none ∧ ((∃ st, WgAt L.tWg Wg w st 0) → stepG P true g w = .go { g with status := .blocked } w #[]) ∧ (WgAt L.tWg Wg w 0 1 → ∃ g', stepG P true g w = .go g' (w.setCell (smA Wg) (.int .u32 0)) (semEvents (smA Wg)) ∧ ME P L.tWg Post (.wg Wg js .woken) d r g' (w.setCell (smA Wg) (.int .u32 0)))
variable (P L Post Wg js d r) in
def MLoad2 (g : Goroutine) (w : World) : Prop := g.status = .running ∧ (WgAt L.tWg Wg w 0 0 → ∃ g', stepG P true g w = .go g' w #[rd (stA Wg)] ∧ ME P L.tWg Post (.wg Wg js .thru) d r g' w)
variable (P L Post Wg js r) in
def MAcq (g : Goroutine) (w : World) : Prop := g.status = .running ∧ ∃ g', stepG P true g w = .go g' w #[mk (.acquire (stA Wg))] ∧ ∀ qs : List Rts, AllJ js qs w → ME P L.tWg Post (.chs []) 0 (r.full qs) g' w
theorem me_wload {m n : Nat} {g : Goroutine} {w : World} (hr : g.status = .running) (hi : WgLive L.tWg Wg w) (h : Goes P true (RR r (WgLive L.tWg Wg)) DC0 (MLoad P L Post Wg js r d n) m g w) : ME P L.tWg Post (.wg Wg js (.idle n)) d r g w :=
  ME.goes (σ := .wg Wg js (.idle n)) (fun _ _ h => h.1) (fun _ _ hr _ h => ME.load1 hr fun w1 a v b c e => (h w1 ⟨a, _, _, e⟩).2 v b c e) m g w hr hi h
theorem me_cas {m vs : Nat} (h0 : vs ≠ 0) (hv : vs < 2147483648) {g : Goroutine} {w : World} (hr : g.status = .running) (hi : WgLive L.tWg Wg w) (h : Goes P true (RR r (WgLive L.tWg Wg)) DC0 (MCas P L Post Wg js r d vs) m g w) : ME P L.tWg Post (.wg Wg js (.seen vs)) d r g w :=
  ME.goes (σ := .wg Wg js (.seen vs)) (fun _ _ h => h.1) (fun _ _ hr _ h => ME.cas hr h0 hv fun w1 a v b e => (h w1 ⟨a, _, _, e⟩).2 v b e) m g w hr hi h
theorem me_park {m : Nat} {g : Goroutine} {w : World} (hr : g.status = .running) (hi : WgLive L.tWg Wg w) (h : Goes P true (RR r (WgLive L.tWg Wg)) DC0 (MPark P L Post Wg js r d) m g w) : ME P L.tWg Post (.wg Wg js .slept) d r g w :=
  ME.goes (σ := .wg Wg js .slept) (fun _ _ h => h.1) (fun g w hr hi h => ME.park hr (h w ⟨Rely.refl _ _, hi⟩).2.1 (fun w1 a b => (h w1 ⟨a, b.choose, _, b.choose_spec⟩).2.2.1 b) (fun w1 a b => (h w1 ⟨a, _, _, b⟩).2.2.2 b)) m g w hr hi h
theorem me_load2 {m : Nat} {g : Goroutine} {w : World} (hr : g.status = .running) (hi : WgLive L.tWg Wg w) (h : Goes P true (RR r (WgLive L.tWg Wg)) DC0 (MLoad2 P L Post Wg js r d) m g w) : ME P L.tWg Post (.wg Wg js .woken) d r g w :=
  ME.goes (σ := .wg Wg js .woken) (fun _ _ h => h.1) (fun _ _ hr _ h => ME.load2 hr fun w1 a b => (h w1 ⟨a, _, _, b⟩).2 b) m g w hr hi h
theorem me_acq {m : Nat} {g : Goroutine} {w : World} (hr : g.status = .running) (hi : WgLive L.tWg Wg w) (h : Goes P true (RR r (WgLive L.tWg Wg)) DC0 (MAcq P L Post Wg js r) m g w) : ME P L.tWg Post (.wg Wg js .thru) 0 r g w :=
  ME.goes (σ := .wg Wg js .thru) (fun _ _ h => h.1) (fun _ _ hr _ h => ME.acq hr fun w1 a b => (h w1 ⟨a, b⟩).2) m g w hr hi h
theorem rely_full {r : Rts} {qs : List Rts} {w w1 : World} (h : Rely (r.full qs) w w1) : Rely r w w1 := h.mono fun _ hl => Or.inl hl
/-- at the head of Wait's loop -/
def WAnch (L : WgLink) (r : Rts) (Wg : Nat) (w0 : World) (c : Frame) (cs : List Frame) (g : Goroutine) (w : World) : Prop :=
  ∃ T : Array Value, g = G ((base L.wait).at ⟨T, []⟩ [.code (L7 L), .inLoop (L7 L), .inBlock 0]) (c :: cs) ∧ T.size = 84 ∧ T[0]? = some (.pointer (some ⟨Wg, 0, none⟩)) ∧ KW r (WgLive L.tWg Wg) w0 w
set_option maxRecDepth 100000 in
set_option maxHeartbeats 16000000 in
theorem wait_loop (H : WgLib P L) {b₀ : Frame} {a₀ : _root_.Go.Act} {ops₀ : Array Oper} {i₀ : Nat} {rest₀ : List Nat} {k₀ : List Item} {cs : List Frame} {w0 : World} (hn : ∀ off, ¬ r.rd (.cell ⟨Wg, off, none⟩))
    (hT : ∀ w1, Rely r w0 w1 → ∀ qs, AllJ js qs w1 → ME P L.tWg Post (.chs []) 0 (r.full qs) (G (b₀.at (a₀.put ((ops₀[i₀]?).bind (·.dst)) (.tuple #[])) (.inRegion ops₀ rest₀ :: k₀)) cs) w1) :
    ∀ (n : Nat) (T : Array Value) (w : World), T.size = 84 → T[0]? = some (.pointer (some ⟨Wg, 0, none⟩)) → KW r (WgLive L.tWg Wg) w0 w → ME P L.tWg Post (.wg Wg js (.idle n)) 1 r (G ((base L.wait).at ⟨T, []⟩ [.code (L7 L), .inLoop (L7 L), .inBlock 0]) (b₀.at a₀ (.inRegion ops₀ (i₀ :: rest₀) :: k₀) :: cs)) w := by
  intro n
  induction n using Nat.strongRecOn with
  | _ n ih =>
    intro T w hT84 t0 hF
    lib_facts
    obtain ⟨v0, v1, v2, v3, v4, v5, v6, v7, v8, v9, v10, v11, v12, v13, v14, v15, v16, v17, v18, v19, v20, v21, v22, v23, v24, v25, v26, v27, v28, v29, v30, v31, v32, v33, v34, v35, v36, v37, v38, v39, v40, v41, v42, v43, v44, v45, v46, v47, v48, v49, v50, v51, v52, v53, v54, v55, v56, v57, v58, v59, v60, v61, v62, v63, v64, v65, v66, v67, v68, v69, v70, v71, v72, v73, v74, v75, v76, v77, v78, v79, v80, v81, v82, v83, rfl⟩ := array84 T hT84
    simp only [List.getElem?_toArray, List.getElem?_cons_zero, Option.some.injEq] at t0
    subst t0
    clear hT84
    simp only [L7, body_wait, waitFn, Option.getD_some]
    refine me_wload (m := 30) rfl hF.2 ?_
    repeat w_go kw_rely
    u_call H.f_uLoad (nm_uLoad L) uLoadFn kw_rely hF
    repeat w_go kw_rely
    refine Goes.stop (fun w₁ h₁ => ?_)
    replace hF := kw_rely hF h₁
    clear h₁
    refine ⟨rfl, fun v hv hvn hw => ?_⟩
    rcases Nat.eq_zero_or_pos v with rfl | hvp
    · replace hw : WgAt L.tWg Wg w₁ 0 0 := by simpa using hw
      refine ⟨_, stepG_load_atomic (v := 0) rfl rfl (by k_ne) rfl H.f_loadU64 (x_loadU64_n L) (x_loadU64_b L) (x_loadU64_x L) .u64 (x_loadU64_f L) rfl hw.cellSt, fun _ => ?_, fun h => absurd rfl h⟩
      clear hw ih
      walk_nrm
      refine me_en (m := 60) rfl hF.2 ?_
      repeat w_go kw_rely
      u_leave1 H.f_uLoad kw_rely hF
      repeat w_go kw_rely
      refine Goes.stop (fun w₅ h₅ => ?_)
      replace hF := kw_rely hF h₅
      clear h₅
      refine ⟨rfl, _, stepG_mark0 .enable (by simp) rfl rfl (by k_ne) rfl H.f_enable (x_enable_n L) (x_enable_b L) (x_enable_x L) (x_enable_f L), ?_⟩
      walk_nrm
      refine me_acq (m := 12) rfl hF.2 ?_
      repeat w_go kw_rely
      u_conv H.underlying_tWgP H.room_tWg (WgLive.cell0 hF.2).choose_spec kw_rely hF
      refine Goes.stop (fun w₆ h₆ => ?_)
      replace hF := kw_rely hF h₆
      clear h₆
      refine ⟨rfl, _, stepG_markAt .acquire (by simp) rfl rfl (by k_ne) rfl H.f_acquire (x_acquire_n L) (x_acquire_b L) (x_acquire_x L) (x_acquire_f L) (by simp [Act.eval, stA]), fun qs hq => ?_⟩
      walk_nrm
      refine ME.goes_to (m := 60) (hT _ hF.1 qs hq) rfl trivial ?_
      replace hF : KW (r.full qs) ((Sg.chs []).iv L.tWg) w₆ w₆ := ⟨Rely.refl _ _, trivial⟩
      repeat w_go kw_rely
      u_leave0 H.f_wait kw_rely hF
      exact Goes.stop fun w₇ h₇ => ⟨rfl, (kw_rely hF h₇).1⟩
    · obtain ⟨S, hS⟩ : ∃ S : Int, (v : Int) * KK = S := ⟨_, rfl⟩
      have a1 : S / 4294967296 = (v : Int) := by rw [← hS]; simp only [KK]; omega
      have b1 : bits .and .u64 S 2147483648 = 0 := by rw [← hS]; have := Go.ConcN.st_flag v 0 (by omega) (by omega); simpa [KK] using this
      have b2 : bits .and .u64 S 2147483647 = 0 := by rw [← hS]; have := Go.ConcN.st_waiters v 0 (by omega) (by omega); simpa [KK] using this
      have c1 : IntKind.i32.wrap (v : Int) = (v : Int) := by rw [IntKind.wrap_i32]; omega
      have w1 : IntKind.u64.wrap (S + 1) = S + 1 := by rw [IntKind.wrap_u64, ← hS]; simp only [KK]; omega
      have q3 : decide ((v : Int) < 0) = false := decide_eq_false (by omega)
      have q4 : decide (0 < (v : Int)) = true := decide_eq_true (by omega)
      have q5 : ((v : Int) == 0) = false := by simp; omega
      have q6 : decide ((v : Int) = 0) = false := decide_eq_false (by omega)
      rw [hS] at hw
      refine ⟨_, stepG_load_atomic (v := S) rfl rfl (by k_ne) rfl H.f_loadU64 (x_loadU64_n L) (x_loadU64_b L) (x_loadU64_x L) .u64 (x_loadU64_f L) rfl hw.cellSt, fun h0 => absurd h0 (by omega), fun _ => ?_⟩
      clear hw
      have HS := _root_.Go.Lib.hid hS
      clear hS
      walk_nrm
      refine me_cas (m := 80) (by omega) hv rfl hF.2 ?_
      repeat w_go kw_rely
      u_leave1 H.f_uLoad kw_rely hF
      repeat w_go kw_rely
      u_call H.f_uCas (nm_uCas L) uCasFn kw_rely hF
      repeat w_go kw_rely
      refine Goes.stop (fun w₂ h₂ => ?_)
      replace hF := kw_rely hF h₂
      clear h₂
      refine ⟨rfl, fun v' hv' hw => ?_⟩
      have hS := HS.out
      by_cases e : v' = v
      · subst e
        rw [hS] at hw ⊢
        refine ⟨_, fun _ => ⟨(stepG_cas_hit (v := S) (n := S + 1) rfl rfl (by k_ne) rfl H.f_casU64 (x_casU64_n L) (x_casU64_b L) (x_casU64_x L) .u64 (x_casU64_f L) rfl rfl rfl hw.cellSt (hw.thaw 0)).trans (by rfl), ?_⟩, fun h => absurd h (Nat.lt_irrefl _)⟩
        replace hF : KW r (WgLive L.tWg Wg) w0 (w₂.setCell (stA Wg) (.int .u64 (S + 1))) := ⟨hF.1.trans (rely_wg rfl hn _), _, _, hw.setSt _⟩
        clear hw ih hS
        walk_nrm
        refine me_s (m := 80) rfl hF.2 ?_
        repeat w_go kw_rely
        u_leave1 H.f_uCas kw_rely hF
        repeat w_go kw_rely
        u_conv H.underlying_tPU32 H.room_tU32 (WgLive.cell1 hF.2).choose_spec kw_rely hF
        refine Goes.stop (fun w₃ h₃ => ?_)
        replace hF := kw_rely hF h₃
        clear h₃
        refine ⟨rfl, _, _, _, stepG_markAt .write (by simp) rfl rfl (by k_ne) rfl H.f_raceWrite (x_raceWrite_n L) (x_raceWrite_b L) (x_raceWrite_x L) (x_raceWrite_f L) (ad := ⟨Wg, 1, none⟩) (by simp [Act.eval]), guar_said (a := ⟨Wg, 1, none⟩) rfl _ hF.2 _ (.inr rfl), ?_⟩
        rw [new_self]
        walk_nrm
        refine me_park (m := 60) rfl hF.2 ?_
        repeat w_go kw_rely
        refine Goes.stop (fun w₃ h₃ => ?_)
        replace hF := kw_rely hF h₃
        clear h₃
        refine ⟨rfl, rfl, fun ⟨st, hw⟩ => stepG_semacquire_wait rfl rfl rfl H.f_semacquire (x_semacquire_n L) (x_semacquire_b L) (x_semacquire_x L) (x_semacquire_f L) (by simp [Act.eval, smA]) hw.cellSm, fun hf => ?_⟩
        refine ⟨_, (stepG_semacquire (n := 1) rfl rfl (by k_ne) rfl H.f_semacquire (x_semacquire_n L) (x_semacquire_b L) (x_semacquire_x L) (x_semacquire_f L) (by simp [Act.eval, smA]) hf.cellSm (by k_ne) (hf.thaw 1)).trans (by rfl), ?_⟩
        replace hF : KW r (WgLive L.tWg Wg) w0 (w₃.setCell (smA Wg) (.int .u32 0)) := ⟨hF.1.trans (rely_wg rfl hn _), _, _, hf.setSm 0⟩
        clear hf
        walk_nrm
        refine me_load2 (m := 60) rfl hF.2 ?_
        repeat w_go kw_rely
        u_call H.f_uLoad (nm_uLoad L) uLoadFn kw_rely hF
        repeat w_go kw_rely
        refine Goes.stop (fun w₄ h₄ => ?_)
        replace hF := kw_rely hF h₄
        clear h₄
        refine ⟨rfl, fun hw => ⟨_, stepG_load_atomic (v := 0) rfl rfl (by k_ne) rfl H.f_loadU64 (x_loadU64_n L) (x_loadU64_b L) (x_loadU64_x L) .u64 (x_loadU64_f L) rfl hw.cellSt, ?_⟩⟩
        clear hw
        walk_nrm
        refine me_en (m := 60) rfl hF.2 ?_
        repeat w_go kw_rely
        u_leave1 H.f_uLoad kw_rely hF
        repeat w_go kw_rely
        refine Goes.stop (fun w₅ h₅ => ?_)
        replace hF := kw_rely hF h₅
        clear h₅
        refine ⟨rfl, _, stepG_mark0 .enable (by simp) rfl rfl (by k_ne) rfl H.f_enable (x_enable_n L) (x_enable_b L) (x_enable_x L) (x_enable_f L), ?_⟩
        walk_nrm
        refine me_acq (m := 12) rfl hF.2 ?_
        repeat w_go kw_rely
        u_conv H.underlying_tWgP H.room_tWg (WgLive.cell0 hF.2).choose_spec kw_rely hF
        refine Goes.stop (fun w₆ h₆ => ?_)
        replace hF := kw_rely hF h₆
        clear h₆
        refine ⟨rfl, _, stepG_markAt .acquire (by simp) rfl rfl (by k_ne) rfl H.f_acquire (x_acquire_n L) (x_acquire_b L) (x_acquire_x L) (x_acquire_f L) (by simp [Act.eval, stA]), fun qs hq => ?_⟩
        walk_nrm
        refine ME.goes_to (m := 60) (hT _ hF.1 qs hq) rfl trivial ?_
        replace hF : KW (r.full qs) ((Sg.chs []).iv L.tWg) w₆ w₆ := ⟨Rely.refl _ _, trivial⟩
        repeat w_go kw_rely
        u_leave0 H.f_wait kw_rely hF
        exact Goes.stop fun w₇ h₇ => ⟨rfl, (kw_rely hF h₇).1⟩
      · refine ⟨_, fun h => absurd h e, fun hlt => ⟨stepG_cas_miss (v := (v' : Int) * KK) (old := S) (n := S + 1) rfl rfl (by k_ne) rfl H.f_casU64 (x_casU64_n L) (x_casU64_b L) (x_casU64_x L) .u64 (x_casU64_f L) rfl rfl rfl hw.cellSt (hw.thaw 0) (by rw [← hS]; simp only [KK]; omega), ?_⟩⟩
        replace hF : KW r (WgLive L.tWg Wg) w0 w₂ := hF
        clear hw hS
        walk_nrm
        refine ME.goes (σ := .wg Wg js (.idle v')) (Stop := WAnch L r Wg w0 (b₀.at a₀ (.inRegion ops₀ (i₀ :: rest₀) :: k₀)) cs) (fun g1 w1 ⟨T, e, _⟩ => by rw [e]; rfl) (fun g1 w1 _ hi1 h1 => ?_) 30 _ _ rfl hF.2 ?_
        · obtain ⟨T, rfl, a, b, c⟩ := h1 w1 ⟨Rely.refl _ _, hi1⟩
          exact ih v' (by omega) T w1 a b c
        · repeat w_go kw_rely
          u_leave1 H.f_uCas kw_rely hF
          repeat w_nl kw_rely
          u_c stepG_inLoop kw_rely hF
          exact Goes.stop fun w₃ h₃ => ⟨_, rfl, by simp, by simp, kw_rely hF h₃⟩
/-- FROM Wait's ENTRY to its return -/
theorem me_wait (H : WgLib P L) {b₀ : Frame} {a₀ : _root_.Go.Act} {ops₀ : Array Oper} {i₀ : Nat} {rest₀ : List Nat} {k₀ : List Item} {cs : List Frame} {n : Nat} {w : World} (hn : ∀ off, ¬ r.rd (.cell ⟨Wg, off, none⟩))
    (hT : ∀ w1, Rely r w w1 → ∀ qs, AllJ js qs w1 → ME P L.tWg Post (.chs []) 0 (r.full qs) (G (b₀.at (a₀.put ((ops₀[i₀]?).bind (·.dst)) (.tuple #[])) (.inRegion ops₀ rest₀ :: k₀)) cs) w1) (hW : WgLive L.tWg Wg w) :
    ME P L.tWg Post (.wg Wg js (.idle n)) 0 r (G ((base L.wait).at ⟨#[.pointer (some ⟨Wg, 0, none⟩)] ++ Array.replicate ((waitFn L).ntmps - 1) undef, []⟩ [.code (body_wait L)]) (b₀.at a₀ (.inRegion ops₀ (i₀ :: rest₀) :: k₀) :: cs)) w := by
  lib_facts
  have hF : KW r (WgLive L.tWg Wg) w w := ⟨Rely.refl _ _, hW⟩
  simp only [body_wait, Option.getD_some]
  refine me_dis (m := 10) rfl hF.2 ?_
  walk_nrmf waitFn
  repeat w_go kw_rely
  refine Goes.stop (fun w₁ h₁ => ?_)
  replace hF := kw_rely hF h₁
  clear h₁
  refine ⟨rfl, _, stepG_mark0 .disable (by simp) rfl rfl (by k_ne) rfl H.f_disable (x_disable_n L) (x_disable_b L) (x_disable_x L) (x_disable_f L), ?_⟩
  walk_nrm
  refine ME.goes (σ := .wg Wg js (.idle n)) (Stop := WAnch L r Wg w (b₀.at a₀ (.inRegion ops₀ (i₀ :: rest₀) :: k₀)) cs) (fun g1 w1 ⟨T, e, _⟩ => by rw [e]; rfl) (fun g1 w1 _ hi1 h1 => ?_) 10 _ _ rfl hF.2 ?_
  · obtain ⟨T, rfl, a, b, c⟩ := h1 w1 ⟨Rely.refl _ _, hi1⟩
    exact wait_loop H hn hT n T w1 a b c
  · repeat w_bar kw_rely
    u_c stepG_loop kw_rely hF
    exact Goes.stop fun w₃ h₃ => ⟨_, rfl, by simp, by simp, kw_rely hF h₃⟩
end
end Cr
end
