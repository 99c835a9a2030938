/- WALK: errors.as in company, from its call to its return. -/
import Derived.Test.YtienepcknafddaaDoorCxAs2
set_option linter.unusedVariables false
set_option linter.unusedSimpArgs false
namespace Go.Proofs.YtienepcknafddaaDoor
open Go Go.RowKit Go.Conc Co Cr SimPlain HeapPlain SymPlain
open Go.ConcM

/-- one cell: what is in it, and that it may be read -/
structure Cl (r : Rts) (w : World) (B j : Nat) (v : Value) : Prop where
  at_ : w.cell? ⟨B, j, none⟩ = some v
  rd : r.rd (.cell ⟨B, j, none⟩)
theorem Cl.rely {r : Rts} {w w' : World} {B j : Nat} {v : Value} (h : Cl r w B j v) (k : Rely r w w') : Cl r w' B j v := ⟨k.cell h.at_ h.rd, h.rd⟩
theorem Cl.new {r : Rts} {w : World} {B j : Nat} {v : Value} (h : Cl r w B j v) (x y : Nat) : Cl (r.new x y) w B j v := ⟨h.at_, .inl h.rd⟩
/-- a Value of reflectlite's in memory -/
structure Rv (r : Rts) (w : World) (B : Nat) (p q : Addr) (n : Int) : Prop where
  at_ : RvAt w B p q n
  rd : ∀ a : Addr, a.block = B → r.rd (.cell a)
theorem Rv.rely {r : Rts} {w w' : World} {B : Nat} {p q : Addr} {n : Int} (h : Rv r w B p q n) (k : Rely r w w') : Rv r w' B p q n := ⟨h.at_.rely h.rd k, h.rd⟩
theorem Rv.new {r : Rts} {w : World} {B : Nat} {p q : Addr} {n : Int} (h : Rv r w B p q n) (x y : Nat) : Rv (r.new x y) w B p q n := ⟨h.at_, fun a ha => .inl (h.rd a ha)⟩
/-- the target's own block -/
structure TF (n0 : Nat) (W0 : Past) (r : Rts) (w : World) (T : Nat) : Prop where
  hold : Hold n0 W0 r w
  ge : n0 ≤ T
  row : Cr.Row w T 0
  rd : r.rd (.cell ⟨T, 0, none⟩)
  wr : r.wr (.cell ⟨T, 0, none⟩)
theorem TF.rely {n0 : Nat} {W0 : Past} {r : Rts} {w w' : World} {T : Nat} (h : TF n0 W0 r w T) (k : Rely r w w') : TF n0 W0 r w' T := ⟨h.hold.rely k, h.ge, h.row.rely k, h.rd, h.wr⟩
theorem TF.new {n0 : Nat} {W0 : Past} {r : Rts} {w : World} {T : Nat} (h : TF n0 W0 r w T) (x y : Nat) : TF n0 W0 (r.new x y) w T := ⟨Hold.new h.hold x y, h.ge, h.row, .inl h.rd, .inl h.wr⟩
def set88 (w : World) (B : Nat) (p q : Addr) (n : Int) : World := ((w.setCell ⟨B, 0, none⟩ (.pointer (some p))).setCell ⟨B, 1, none⟩ (.pointer (some q))).setCell ⟨B, 2, none⟩ (.int .u64 n)
theorem size_set88 (w : World) (B : Nat) (p q : Addr) (n : Int) : (set88 w B p q n).heap.size = w.heap.size := by simp only [set88, size_setCell]
theorem at_set88 {w : World} {B : Nat} (p q : Addr) (n : Int) (h0 : Cr.Row w B 0) (h1 : Cr.Row w B 1) (h2 : Cr.Row w B 2) : RvAt (set88 w B p q n) B p q n := by
  obtain ⟨u0, c0⟩ := h0.cell
  obtain ⟨u1, c1⟩ := h1.cell
  obtain ⟨u2, c2⟩ := h2.cell
  unfold set88
  refine ⟨?_, ?_, ?_⟩
  · rw [World.cell?_setCell_other _ _ _ _ (by simp), World.cell?_setCell_other _ _ _ _ (by simp), World.cell?_setCell_same _ _ _ c0]
  · rw [World.cell?_setCell_other _ _ _ _ (by simp), World.cell?_setCell_same _ _ _ (u := u1) (by rw [World.cell?_setCell_other _ _ _ _ (by simp)]; exact c1)]
  · rw [World.cell?_setCell_same _ _ _ (u := u2) (by rw [World.cell?_setCell_other _ _ _ _ (by simp), World.cell?_setCell_other _ _ _ _ (by simp)]; exact c2)]
theorem rely_set88 {r : Rts} {w w1 : World} (h : Rely r w w1) {B : Nat} (hB : w.heap.size ≤ B) (p q : Addr) (n : Int) : Rely r w (set88 w1 B p q n) := rely_set (rely_set (rely_set h hB _) hB _) hB _
section
variable {ty : TypeId} {Post : Value → World → Prop} {σ : Sg} {d : Nat} {r : Rts} {bf : Frame} {a : _root_.Go.Act} {k : List Item} {cs : List Frame} {w : World} {ops : Array Oper} {i : Nat} {rest : List Nat} {o : Oper} {x y : Operand} {p q : Addr} {n : Int} {B : Nat}
/-- a Value of reflectlite's stored -/
theorem me_st88 (ho : ops[i]? = some o) (hg : Region.wanted o (yielded ops a.tmps) = true) (hk : bf.kind ≠ .early) (hop : o.op = .store 88 x y) (hx : a.eval x = .pointer (some ⟨B, 0, none⟩)) (hy : a.eval y = rvV p q n)
    (h0 : Cr.Row w B 0) (h1 : Cr.Row w B 1) (h2 : Cr.Row w B 2) (hr : ∀ a : Addr, a.block = B → r.rd (.cell a)) (hw : ∀ a : Addr, a.block = B → r.wr (.cell a))
    (hT : ∀ w1, Rely r w w1 → ME Tryd.prog ty Post σ d r (G (bf.at (a.put o.dst undef) (.inRegion ops rest :: k)) cs) (set88 w1 B p q n)) : ME Tryd.prog ty Post σ d r (G (bf.at a (.inRegion ops (i :: rest) :: k)) cs) w := by
  refine me_gen0 ho hg hk (T := fun w1 => set88 w1 B p q n) (fun W hW => ?_) fun w1 h1 _ => by rw [size_set88, new_self]; exact hT w1 h1
  have b0 := h0.rely hW
  have b1 := h1.rely hW
  have b2 := h2.rely hW
  have e := st88 (ρ := a.eval) (o := o) hop hx hy W b0 b1 b2
  refine ⟨e.1, fun z hz => ?_, (Turn.setCell _ _ _ (hw _ rfl)).trans ((Turn.setCell _ _ _ (hw _ rfl)).trans (Turn.setCell _ _ _ (hw _ rfl)))⟩
  rw [e.2] at hz
  simp only [List.mem_toArray, List.mem_cons, List.not_mem_nil, or_false] at hz
  have hlt : ∀ {j : Nat}, Cr.Row W B j → B < (set88 W B p q n).heap.size := fun h => by rw [size_set88]; exact cell_lt h.cell.choose_spec
  rcases hz with rfl | rfl | rfl
  · exact evok_write (hr _ rfl) (hw _ rfl) (hlt b0)
  · exact evok_write (hr _ rfl) (hw _ rfl) (hlt b0)
  · exact evok_write (hr _ rfl) (hw _ rfl) (hlt b0)
theorem xSet : Extern.find Tryd.f61 = some Extern.ReflectliteValue.set := by kernel_rfl
theorem me_setE {T B1 : Nat} {e : Int} {ats : Array TypeId} (ho : ops[i]? = some o) (hg : Region.wanted o (yielded ops a.tmps) = true) (hk : bf.kind ≠ .early) (hop : o.op = .call { callee := .value (.func 61), args := #[x, y], argTypes := ats })
    (hx : a.eval x = rvV ⟨1, 36, none⟩ ⟨T, 0, none⟩ 386) (hy : a.eval y = rvV ⟨1, 36, none⟩ ⟨B1, 0, none⟩ 130) (hb : Cl r w B1 0 (.int .i64 e)) (hrow : Cr.Row w T 0) (hrd : r.rd (.cell ⟨T, 0, none⟩)) (hwr : r.wr (.cell ⟨T, 0, none⟩))
    (hT : ∀ w1, Rely r w w1 → ME Tryd.prog ty Post σ d r (G (bf.at (a.put o.dst (.tuple #[])) (.inRegion ops rest :: k)) cs) (w1.setCell ⟨T, 0, none⟩ (.int .i64 e))) : ME Tryd.prog ty Post σ d r (G (bf.at a (.inRegion ops (i :: rest) :: k)) cs) w := by
  have em : (#[x, y] : Array Operand).map a.eval = #[rvV ⟨1, 36, none⟩ ⟨T, 0, none⟩ 386, rvV ⟨1, 36, none⟩ ⟨B1, 0, none⟩ 130] := by simp [hx, hy]
  refine me_gen ho hg hk (v := fun _ => .tuple #[]) (T := fun w1 => w1.setCell ⟨T, 0, none⟩ (.int .i64 e)) (fun W hW => ?_) fun w1 h1 _ => by rw [size_setCell, new_self]; exact hT w1 h1
  have hc := (hb.rely hW).at_
  have hw := hrow.rely hW
  obtain ⟨u, hu⟩ := hw.cell
  refine ⟨entry_run hop Tryd.func61 (by kernel_rfl) (by kernel_rfl) (by kernel_rfl) xSet (by rw [em]; exact As.set25 ⟨T, 0, none⟩ ⟨B1, 0, none⟩ e u W hc hu hw.thaw), fun z hz => ?_, Turn.setCell _ _ _ hwr⟩
  rw [entry_events hop Tryd.func61 (by kernel_rfl) (by kernel_rfl) (by kernel_rfl) xSet, em, show ∀ f, (Extern.ReflectliteValue.set #[rvV ⟨1, 36, none⟩ ⟨T, 0, none⟩ 386, rvV ⟨1, 36, none⟩ ⟨B1, 0, none⟩ 130]).events Tryd.prog W (mk1 f) = _ from fun f => AsE.set25 ⟨T, 0, none⟩ ⟨B1, 0, none⟩ e u W f hc hu hw.thaw] at hz
  simp only [List.mem_toArray, List.mem_cons, List.not_mem_nil, or_false] at hz
  rcases hz with rfl | rfl | rfl
  · exact evok_mark _
  · exact evok_read hb.rd (by rw [size_setCell]; exact cell_lt hc)
  · exact evok_write hrd hwr (by rw [size_setCell]; exact cell_lt hu)
end
section
theorem xTypeOf : Extern.find Tryd.f59 = some Extern.ReflectliteType.typeOf := by kernel_rfl
theorem xAssign : Extern.find Tryd.f86 = some (Extern.ReflectliteType.relation "AssignableTo" Extern.ReflectliteType.assignableTo) := by kernel_rfl
variable {Post : Value → World → Prop} {r : Rts} {w : World} {T V1 n0 : Nat} {n : Int} {W0 : Past}
set_option maxRecDepth 100000 in
set_option maxHeartbeats 8000000 in
/-- ERRORS.AS's loop, of an Errno, for an Errno's address -/
theorem as_goes {cs : List Frame} (F : TF n0 W0 r w T) (V : Cl r w V1 0 (.pointer (some ⟨T, 0, none⟩)))
    (cont : ∀ (t : Array Value) (todo : List Item) (r : Rts) (w : World), Hold n0 W0 r w → Cl r w T 0 (.int .i64 n) → t.size = 62 → t[8]? = some (.bool true) → ME Tryd.prog wgL.tWg Post (.chs []) 0 r (G { (base 54).at ⟨t, []⟩ todo with mode := .returning } cs) w) :
    ME Tryd.prog wgL.tWg Post (.chs []) 0 r (G ((base 54).at ⟨#[.iface 36 (.int .i64 n), .iface 75 (.pointer (some ⟨T, 0, none⟩)), rvV ⟨1, 75, none⟩ ⟨V1, 0, none⟩ 150, .iface 102 (.agg #[.pointer (some ⟨1, 36, none⟩)]), undef, undef, undef, undef, undef, undef, undef, undef, undef, undef, undef, undef, undef, undef, undef, undef, undef, undef, undef, undef, undef, undef, undef, undef, undef, undef, undef, undef, undef, undef, undef, undef, undef, undef, undef, undef, undef, undef, undef, undef, undef, undef, undef, undef, undef, undef, undef, undef, undef, undef, undef, undef, undef, undef, undef, undef, undef, undef], []⟩ [.code bodyB]) cs) w := by
  rw [bodyB_eq]
  simp only [rb0, Tryd.f54]
  have hF : KW r ((Sg.chs []).iv wgL.tWg) w w := ⟨Rely.refl _ _, trivial⟩
  refine me_run (m := 2) rfl trivial ?_
  w_go kw_rely
  w_go kw_rely
  refine Goes.stop (fun w₁ h₁ => ?_)
  replace hF := kw_rely hF h₁
  replace F := F.rely hF.1
  replace V := V.rely hF.1
  clear h₁ hF
  refine me_al (f := fun x => .pointer (some ⟨x, 0, none⟩)) rfl rfl (by decide) loudB (box88 rfl rfl) fun wa ha _ => ?_
  walk_nrm
  have hr := rely_alloc ha (.cells (rvC ⟨1, 75, none⟩ ⟨V1, 0, none⟩ 150) 88 (0, 0))
  replace F := (F.rely hr).new wa.heap.size (wa.heap.size + 1)
  replace V := (V.rely hr).new wa.heap.size (wa.heap.size + 1)
  have R : Rv (r.new wa.heap.size (wa.heap.size + 1)) (wa.alloc (.cells (rvC ⟨1, 75, none⟩ ⟨V1, 0, none⟩ 150) 88 (0, 0))) wa.heap.size ⟨1, 75, none⟩ ⟨V1, 0, none⟩ 150 :=
    ⟨⟨by unfold World.cell?; simp only [alloc_here]; rfl, by unfold World.cell?; simp only [alloc_here]; rfl, by unfold World.cell?; simp only [alloc_here]; rfl⟩, fun a ha => new_rd_cell ha⟩
  generalize wa.alloc (.cells (rvC ⟨1, 75, none⟩ ⟨V1, 0, none⟩ 150) 88 (0, 0)) = w2 at F V R
  generalize r.new wa.heap.size (wa.heap.size + 1) = r2 at F V R
  generalize wa.heap.size = B at F V R
  clear ha hr
  simp only [rb1, qB1, qB, Tryd.f54]
  have hF : KW r2 ((Sg.chs []).iv wgL.tWg) w2 w2 := ⟨Rely.refl _ _, trivial⟩
  refine me_run (m := 9) rfl trivial ?_
  repeat w_go kw_rely
  refine Goes.stop (fun w₁ h₁ => ?_)
  replace hF := kw_rely hF h₁
  replace F := F.rely hF.1
  replace V := V.rely hF.1
  replace R := R.rely hF.1
  clear h₁ hF
  refine me_ent rfl rfl (by decide) rfl Tryd.func59 (by kernel_rfl) (by kernel_rfl) (by kernel_rfl) xTypeOf (vs := #[.iface 36 (.int .i64 n)]) (by simp only [List.map_toArray, List.map_cons, List.map_nil]; rfl) (fun W => As.typeOf25 (.int .i64 n) W) (fun W => AsE.typeOf25 (.int .i64 n) W _) ?_
  walk_nrm
  have hF : KW r2 ((Sg.chs []).iv wgL.tWg) w₁ w₁ := ⟨Rely.refl _ _, trivial⟩
  refine me_run (m := 1) rfl trivial ?_
  w_go kw_rely
  refine Goes.stop (fun w₂ h₂ => ?_)
  replace hF := kw_rely hF h₂
  replace F := F.rely hF.1
  replace V := V.rely hF.1
  replace R := R.rely hF.1
  clear h₂ hF
  refine me_inv rfl rfl (by decide) rfl rfl (fun W => As.methodAssignableTo _ W) (fun W => AsE.methodAssignableTo _ W) Tryd.func86 (by kernel_rfl) (by kernel_rfl) (by kernel_rfl) xAssign (vs := #[.iface 102 (.agg #[.pointer (some ⟨1, 36, none⟩)])]) (by simp only [List.map_toArray, List.map_cons, List.map_nil]; rfl) (fun W => As.assignable25 W) (fun W => AsE.assignable25 W _) ?_
  walk_nrm
  have hF : KW r2 ((Sg.chs []).iv wgL.tWg) w₂ w₂ := ⟨Rely.refl _ _, trivial⟩
  simp only [rb2, rb3, qB1, qB, Tryd.f54]
  refine me_run (m := 4) rfl trivial ?_
  repeat w_go kw_rely
  refine Goes.stop (fun w₃ h₃ => ?_)
  replace hF := kw_rely hF h₃
  replace F := F.rely hF.1
  replace V := V.rely hF.1
  replace R := R.rely hF.1
  clear h₃ hF
  refine me_ld88 rfl rfl (by decide) rfl rfl R.at_ R.rd ?_
  walk_nrm
  refine me_elemV rfl rfl (by decide) rfl rfl V.at_ V.rd ?_
  walk_nrm
  have hF : KW r2 ((Sg.chs []).iv wgL.tWg) w₃ w₃ := ⟨Rely.refl _ _, trivial⟩
  refine me_run (m := 1) rfl trivial ?_
  w_go kw_rely
  refine Goes.stop (fun w₄ h₄ => ?_)
  replace hF := kw_rely hF h₄
  replace F := F.rely hF.1
  clear V R h₄ hF
  refine me_valueOfE rfl rfl (by decide) rfl rfl fun wb hb _ => ?_
  walk_nrm
  have hr := rely_alloc hb (.cells #[.int .i64 n] 36)
  replace F := (F.rely hr).new wb.heap.size (wb.heap.size + 1)
  have E : Cl (r2.new wb.heap.size (wb.heap.size + 1)) (wb.alloc (.cells #[.int .i64 n] 36)) wb.heap.size 0 (.int .i64 n) := ⟨by unfold World.cell?; simp only [alloc_here]; rfl, new_rd_cell rfl⟩
  generalize wb.alloc (.cells #[.int .i64 n] 36) = w5 at F E
  generalize r2.new wb.heap.size (wb.heap.size + 1) = r5 at F E
  generalize wb.heap.size = B1 at F E
  clear hb hr
  refine me_setE rfl rfl (by decide) rfl rfl rfl E F.row F.rd F.wr fun wc hc => ?_
  walk_nrm
  replace F := F.rely hc
  have hh := F.hold.set (a := ⟨T, 0, none⟩) F.ge (.int .i64 n)
  have hv : Cl r5 (wc.setCell ⟨T, 0, none⟩ (.int .i64 n)) T 0 (.int .i64 n) := ⟨F.row.set _, F.rd⟩
  generalize wc.setCell ⟨T, 0, none⟩ (.int .i64 n) = w6 at hh hv
  clear E F hc
  have hF : KW r5 ((Sg.chs []).iv wgL.tWg) w6 w6 := ⟨Rely.refl _ _, trivial⟩
  refine me_run (m := 6) rfl trivial ?_
  repeat w_go kw_rely
  refine Goes.stop (fun w₇ h₇ => ?_)
  replace hF := kw_rely hF h₇
  exact cont _ _ _ _ (hh.rely hF.1) (hv.rely hF.1) rfl rfl
end
end Go.Proofs.YtienepcknafddaaDoor
