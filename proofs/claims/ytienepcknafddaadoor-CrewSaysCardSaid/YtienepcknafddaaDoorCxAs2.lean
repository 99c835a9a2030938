/- WALK: records of reflectlite.Value boxed, loaded, stored. -/
import Derived.Test.YtienepcknafddaaDoorCxAs
set_option linter.unusedVariables false
set_option linter.unusedSimpArgs false
namespace Go.Proofs.YtienepcknafddaaDoor
open Go Go.RowKit Go.Conc Co Cr SimPlain HeapPlain SymPlain
open Go.ConcM

/-- what a reflectlite.Value is made of: pointer, pointer, flag -/
def rvV (p q : Addr) (n : Int) : Value := .agg #[.pointer (some p), .pointer (some q), .int .u64 n]
def rvC (p q : Addr) (n : Int) : Array Value := #[.pointer (some p), .pointer (some q), .int .u64 n]
section
variable {ρ : Operand → Value} {o : Oper} {x y : Operand} {p q : Addr} {n : Int} {B : Nat}
theorem box88 (hop : o.op = .box 88 x) (hx : ρ x = rvV p q n) (w : World) : (execOp ρ o).run Tryd.prog w = .ok (.value (.pointer (some ⟨w.heap.size, 0, none⟩))) (w.alloc (.cells (rvC p q n) 88 (0, 0))) ∧ (execOp ρ o).events Tryd.prog w #[] = #[] := by
  unfold execOp; simp only [hop]; simp [go_sem, hx, rvV, rvC]
theorem al88 (hop : o.op = .alloc 88) (w : World) : (execOp ρ o).run Tryd.prog w = .ok (.value (.pointer (some ⟨w.heap.size, 0, none⟩))) (w.alloc (.cells #[.pointer none, .pointer none, .int .u64 0] 88 (0, 0))) ∧ (execOp ρ o).events Tryd.prog w #[] = #[] := by
  unfold execOp; simp only [hop]; simp [go_sem]
theorem al36 (hop : o.op = .alloc 36) (w : World) : (execOp ρ o).run Tryd.prog w = .ok (.value (.pointer (some ⟨w.heap.size, 0, none⟩))) (w.alloc (.cells #[.int .i64 0] 36 (0, 0))) ∧ (execOp ρ o).events Tryd.prog w #[] = #[] := by
  unfold execOp; simp only [hop]; simp [go_sem]
theorem ld88 (hop : o.op = .load 88 x) (hx : ρ x = .pointer (some ⟨B, 0, none⟩)) (w : World) (h0 : w.cell? ⟨B, 0, none⟩ = some (.pointer (some p))) (h1 : w.cell? ⟨B, 1, none⟩ = some (.pointer (some q))) (h2 : w.cell? ⟨B, 2, none⟩ = some (.int .u64 n)) :
    (execOp ρ o).run Tryd.prog w = .ok (.value (rvV p q n)) w ∧ (execOp ρ o).events Tryd.prog w #[] = #[⟨.cell ⟨B, 0, none⟩, false, false⟩, ⟨.cell ⟨B, 1, none⟩, false, false⟩, ⟨.cell ⟨B, 2, none⟩, false, false⟩] := by
  unfold execOp; simp only [hop]; simp [go_sem, hx, rvV, h0, h1, h2]
theorem st88 (hop : o.op = .store 88 x y) (hx : ρ x = .pointer (some ⟨B, 0, none⟩)) (hy : ρ y = rvV p q n) (w : World) (h0 : Cr.Row w B 0) (h1 : Cr.Row w B 1) (h2 : Cr.Row w B 2) :
    (execOp ρ o).run Tryd.prog w = .ok .skip (((w.setCell ⟨B, 0, none⟩ (.pointer (some p))).setCell ⟨B, 1, none⟩ (.pointer (some q))).setCell ⟨B, 2, none⟩ (.int .u64 n)) ∧
      (execOp ρ o).events Tryd.prog w #[] = #[⟨.cell ⟨B, 0, none⟩, true, false⟩, ⟨.cell ⟨B, 1, none⟩, true, false⟩, ⟨.cell ⟨B, 2, none⟩, true, false⟩] := by
  obtain ⟨u0, c0⟩ := h0.cell
  obtain ⟨u1, c1⟩ := h1.cell
  obtain ⟨u2, c2⟩ := h2.cell
  have z0 := h0.thaw
  have z1 := h1.thaw
  have z2 := h2.thaw
  unfold execOp; simp only [hop, hx, hy]
  have e0 := fun w es => events_store Tryd.prog w es ⟨B, 0, none⟩ (.pointer (some p)) .plain rfl
  have e1 := fun w es => events_store Tryd.prog w es ⟨B, 1, none⟩ (.pointer (some q)) .plain rfl
  have e2 := fun w es => events_store Tryd.prog w es ⟨B, 2, none⟩ (.int .u64 n) .plain rfl
  simp [go_sem, rvV, e0, e1, e2, stored, storedEv, c0, c1, c2, z0, z1, z2]
end
section
variable {ty : TypeId} {Post : Value → World → Prop} {σ : Sg} {d : Nat} {r : Rts} {bf : Frame} {a : _root_.Go.Act} {k : List Item} {cs : List Frame} {w : World} {ops : Array Oper} {i : Nat} {rest : List Nat} {o : Oper} {x : Operand} {p q : Addr} {n : Int} {B : Nat}
/-- a record of the Value's own three cells -/
def RvAt (w : World) (B : Nat) (p q : Addr) (n : Int) : Prop := w.cell? ⟨B, 0, none⟩ = some (.pointer (some p)) ∧ w.cell? ⟨B, 1, none⟩ = some (.pointer (some q)) ∧ w.cell? ⟨B, 2, none⟩ = some (.int .u64 n)
theorem RvAt.rely {w' : World} (h : RvAt w B p q n) (hr : ∀ a : Addr, a.block = B → r.rd (.cell a)) (k : Rely r w w') : RvAt w' B p q n := ⟨k.cell h.1 (hr _ rfl), k.cell h.2.1 (hr _ rfl), k.cell h.2.2 (hr _ rfl)⟩
theorem me_ld88 (ho : ops[i]? = some o) (hg : Region.wanted o (yielded ops a.tmps) = true) (hk : bf.kind ≠ .early) (hop : o.op = .load 88 x) (hx : a.eval x = .pointer (some ⟨B, 0, none⟩)) (h : RvAt w B p q n) (hr : ∀ a : Addr, a.block = B → r.rd (.cell a))
    (hT : ME Tryd.prog ty Post σ d r (G (bf.at (a.put o.dst (rvV p q n)) (.inRegion ops rest :: k)) cs) w) : ME Tryd.prog ty Post σ d r (G (bf.at a (.inRegion ops (i :: rest) :: k)) cs) w := by
  refine me_rd ho hg hk (fun W hW => ?_) hT
  obtain ⟨b0, b1, b2⟩ := h.rely hr hW
  have e := ld88 (ρ := a.eval) (o := o) hop hx W b0 b1 b2
  refine ⟨e.1, fun y hy => ?_⟩
  rw [e.2] at hy
  simp only [List.mem_toArray, List.mem_cons, List.not_mem_nil, or_false] at hy
  rcases hy with rfl | rfl | rfl
  · exact evok_read (hr _ rfl) (cell_lt b0)
  · exact evok_read (hr _ rfl) (cell_lt b1)
  · exact evok_read (hr _ rfl) (cell_lt b2)
theorem xElemV : Extern.find Tryd.f60 = some (Extern.ReflectliteValue.method (Extern.ReflectliteValue.valueError "reflectlite.Value.Elem" 0) Extern.ReflectliteValue.elem) := by kernel_rfl
theorem xIsNil : Extern.find Tryd.f53 = some (Extern.ReflectliteValue.method (Extern.ReflectliteValue.valueError "reflectlite.Value.IsNil" 0) Extern.ReflectliteValue.isNil) := by kernel_rfl
theorem evok_mr {S : Loc → Prop} {main : Bool} {m m' : Nat} {f : FuncId} {A : Addr} (hr : r.rd (.cell A)) (hA : A.block < m') {es : Array Event} (h : es = #[⟨.mark (.extern f), false, true⟩, ⟨.cell A, false, false⟩]) : ∀ y ∈ es, EvOk r S main m m' y := fun y hy => by
  subst h
  simp only [List.mem_toArray, List.mem_cons, List.not_mem_nil, or_false] at hy
  rcases hy with rfl | rfl
  · exact evok_mark f
  · exact evok_read hr hA
theorem me_elemV {V1 : Nat} {ats : Array TypeId} (ho : ops[i]? = some o) (hg : Region.wanted o (yielded ops a.tmps) = true) (hk : bf.kind ≠ .early) (hop : o.op = .call { callee := .value (.func 60), args := #[x], argTypes := ats }) (hx : a.eval x = rvV ⟨1, 75, none⟩ ⟨V1, 0, none⟩ 150)
    (hv : w.cell? ⟨V1, 0, none⟩ = some (.pointer (some p))) (hr : r.rd (.cell ⟨V1, 0, none⟩))
    (hT : ME Tryd.prog ty Post σ d r (G (bf.at (a.put o.dst (rvV ⟨1, 36, none⟩ p 386)) (.inRegion ops rest :: k)) cs) w) : ME Tryd.prog ty Post σ d r (G (bf.at a (.inRegion ops (i :: rest) :: k)) cs) w := by
  have em : (#[x] : Array Operand).map a.eval = #[rvV ⟨1, 75, none⟩ ⟨V1, 0, none⟩ 150] := by simp [hx]
  refine me_rd ho hg hk (fun W hW => ?_) hT
  have hc := hW.cell hv hr
  exact ⟨entry_run hop Tryd.func60 (by kernel_rfl) (by kernel_rfl) (by kernel_rfl) xElemV (by rw [em]; exact As.elemV27 ⟨V1, 0, none⟩ p W hc),
    evok_mr hr (cell_lt hc) (by rw [entry_events hop Tryd.func60 (by kernel_rfl) (by kernel_rfl) (by kernel_rfl) xElemV, em]; exact AsE.elemV27 ⟨V1, 0, none⟩ p W _ hc)⟩
theorem me_isNil {V1 : Nat} {ats : Array TypeId} (ho : ops[i]? = some o) (hg : Region.wanted o (yielded ops a.tmps) = true) (hk : bf.kind ≠ .early) (hop : o.op = .call { callee := .value (.func 53), args := #[x], argTypes := ats }) (hx : a.eval x = rvV ⟨1, 75, none⟩ ⟨V1, 0, none⟩ 150)
    (hv : w.cell? ⟨V1, 0, none⟩ = some (.pointer (some p))) (hr : r.rd (.cell ⟨V1, 0, none⟩))
    (hT : ME Tryd.prog ty Post σ d r (G (bf.at (a.put o.dst (.bool false)) (.inRegion ops rest :: k)) cs) w) : ME Tryd.prog ty Post σ d r (G (bf.at a (.inRegion ops (i :: rest) :: k)) cs) w := by
  have em : (#[x] : Array Operand).map a.eval = #[rvV ⟨1, 75, none⟩ ⟨V1, 0, none⟩ 150] := by simp [hx]
  refine me_rd ho hg hk (fun W hW => ?_) hT
  have hc := hW.cell hv hr
  exact ⟨entry_run hop Tryd.func53 (by kernel_rfl) (by kernel_rfl) (by kernel_rfl) xIsNil (by rw [em]; exact As.isNil27 ⟨V1, 0, none⟩ p W hc),
    evok_mr hr (cell_lt hc) (by rw [entry_events hop Tryd.func53 (by kernel_rfl) (by kernel_rfl) (by kernel_rfl) xIsNil, em]; exact AsE.isNil27 ⟨V1, 0, none⟩ p W _ hc)⟩
theorem turn_alloc {X : Loc → Prop} (w : World) (ob : Obj) : Turn X w (w.alloc ob) := ⟨rfl, rfl, rfl, by simp, fun b hb => .inl (.inl (Below.heap_alloc w ob b hb))⟩
theorem me_valueOfP {A : Addr} {ats : Array TypeId} (ho : ops[i]? = some o) (hg : Region.wanted o (yielded ops a.tmps) = true) (hk : bf.kind ≠ .early) (hop : o.op = .call { callee := .value (.func 51), args := #[x], argTypes := ats }) (hx : a.eval x = .iface 75 (.pointer (some A)))
    (hT : ∀ w1, Rely r w w1 → σ.iv ty w1 → ME Tryd.prog ty Post σ d (r.new w1.heap.size (w1.heap.size + 1)) (G (bf.at (a.put o.dst (rvV ⟨1, 75, none⟩ ⟨w1.heap.size, 0, none⟩ 150)) (.inRegion ops rest :: k)) cs) (w1.alloc (.cells #[.pointer (some A)] 75))) : ME Tryd.prog ty Post σ d r (G (bf.at a (.inRegion ops (i :: rest) :: k)) cs) w := by
  have em : (#[x] : Array Operand).map a.eval = #[.iface 75 (.pointer (some A))] := by simp [hx]
  refine me_gen ho hg hk (v := fun w1 => rvV ⟨1, 75, none⟩ ⟨w1.heap.size, 0, none⟩ 150) (T := fun w1 => w1.alloc (.cells #[.pointer (some A)] 75)) (fun W hW => ⟨entry_run hop Tryd.func51 (by kernel_rfl) (by kernel_rfl) (by kernel_rfl) xValueOf (by rw [em]; exact As.valueOf27 A W),
    evok_one (f := 51) (by rw [entry_events hop Tryd.func51 (by kernel_rfl) (by kernel_rfl) (by kernel_rfl) xValueOf, em]; exact AsE.valueOf27 A W _), turn_alloc _ _⟩) fun w1 h1 hi => ?_
  have := hT w1 h1 hi
  simpa using this
theorem me_valueOfE {m : Int} {ats : Array TypeId} (ho : ops[i]? = some o) (hg : Region.wanted o (yielded ops a.tmps) = true) (hk : bf.kind ≠ .early) (hop : o.op = .call { callee := .value (.func 51), args := #[x], argTypes := ats }) (hx : a.eval x = .iface 36 (.int .i64 m))
    (hT : ∀ w1, Rely r w w1 → σ.iv ty w1 → ME Tryd.prog ty Post σ d (r.new w1.heap.size (w1.heap.size + 1)) (G (bf.at (a.put o.dst (rvV ⟨1, 36, none⟩ ⟨w1.heap.size, 0, none⟩ 130)) (.inRegion ops rest :: k)) cs) (w1.alloc (.cells #[.int .i64 m] 36))) : ME Tryd.prog ty Post σ d r (G (bf.at a (.inRegion ops (i :: rest) :: k)) cs) w := by
  have em : (#[x] : Array Operand).map a.eval = #[.iface 36 (.int .i64 m)] := by simp [hx]
  refine me_gen ho hg hk (v := fun w1 => rvV ⟨1, 36, none⟩ ⟨w1.heap.size, 0, none⟩ 130) (T := fun w1 => w1.alloc (.cells #[.int .i64 m] 36)) (fun W hW => ⟨entry_run hop Tryd.func51 (by kernel_rfl) (by kernel_rfl) (by kernel_rfl) xValueOf (by rw [em]; exact As.valueOf25 m W),
    evok_one (f := 51) (by rw [entry_events hop Tryd.func51 (by kernel_rfl) (by kernel_rfl) (by kernel_rfl) xValueOf, em]; exact AsE.valueOf25 m W _), turn_alloc _ _⟩) fun w1 h1 hi => ?_
  have := hT w1 h1 hi
  simpa using this
end
end Go.Proofs.YtienepcknafddaaDoor
