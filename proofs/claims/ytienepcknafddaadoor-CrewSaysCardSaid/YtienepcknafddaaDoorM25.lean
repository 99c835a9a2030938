/- WALKS: single operations: what they do, what they list. · PLAIN LAW of the model: the starter's loads, stores, allotments, as one step in company (no program text in sight). · PLAIN LAW of the model: the starter's, and a worker's, own steps in company, in the words of a walk (no program text in sight). · PLAIN LAW of the model: a send, a receive, a deferred close, a go statement in company, in the words of a walk (no program text in sight). · PLAIN LAW of the model: orders of a region: what has been done ahead of an operation; an operation that comes last (no program text in sight). · WALKS: rows of items that may be read in company. -/
import Derived.Test.YtienepcknafddaaDoorM1
import Derived.Test.YtienepcknafddaaDoorM21
import Derived.Conc.SmallLaws
import Derived.Conc.DeferLaws
import Derived.Conc.Own2
import Derived.Conc.AppendWalk
import Derived.Test.YtienepcknafddaaDoorM22
import Derived.Conc.EventLaws
import Derived.Test.YtienepcknafddaaDoorM23
import Derived.Test.YtienepcknafddaaDoorM24
set_option linter.unusedVariables false
set_option linter.unusedSimpArgs false
section
set_option linter.unusedVariables false
set_option linter.unusedSimpArgs false
set_option linter.unusedVariables false
set_option linter.unusedSimpArgs false
namespace Go.Proofs.YtienepcknafddaaDoor
open Go Go.RowKit Go.Conc Co Cr
section
variable {ρ : Operand → Value} {o : Oper} {x y : Operand} {A : Addr} {v : Value} {w : World}
theorem ld22 (hop : o.op = .load 22 x) (hx : ρ x = .pointer (some A)) (w : World) (h : w.cell? A = some v) : (execOp ρ o).run Tryd.prog w = .ok (.value v) w ∧ (execOp ρ o).events Tryd.prog w #[] = #[⟨.cell A, false, false⟩] := by
  unfold execOp; simp only [hop, hx]; simp [go_sem, h]
theorem ld3 (hop : o.op = .load 3 x) (hx : ρ x = .pointer (some A)) (w : World) (h : w.cell? A = some v) : (execOp ρ o).run Tryd.prog w = .ok (.value v) w ∧ (execOp ρ o).events Tryd.prog w #[] = #[⟨.cell A, false, false⟩] := by
  unfold execOp; simp only [hop, hx]; simp [go_sem, h]
theorem ld35 (hop : o.op = .load 37 x) (hx : ρ x = .pointer (some A)) (w : World) (h : w.cell? A = some v) : (execOp ρ o).run Tryd.prog w = .ok (.value v) w ∧ (execOp ρ o).events Tryd.prog w #[] = #[⟨.cell A, false, false⟩] := by
  unfold execOp; simp only [hop, hx]; simp [go_sem, h]
theorem ld68 (hop : o.op = .load 71 x) (hx : ρ x = .pointer (some A)) (w : World) (h : w.cell? A = some v) : (execOp ρ o).run Tryd.prog w = .ok (.value v) w ∧ (execOp ρ o).events Tryd.prog w #[] = #[⟨.cell A, false, false⟩] := by
  unfold execOp; simp only [hop, hx]; simp [go_sem, h]
theorem ld69 (hop : o.op = .load 72 x) (hx : ρ x = .pointer (some A)) (w : World) (h : w.cell? A = some v) : (execOp ρ o).run Tryd.prog w = .ok (.value v) w ∧ (execOp ρ o).events Tryd.prog w #[] = #[⟨.cell A, false, false⟩] := by
  unfold execOp; simp only [hop, hx]; simp [go_sem, h]
theorem st3 {B j : Nat} {k : IntKind} {n : Int} (hop : o.op = .store 3 x y) (hx : ρ x = .pointer (some ⟨B, j, none⟩)) (hy : ρ y = .int k n) (w : World) (h : Cr.Row w B j) : (execOp ρ o).run Tryd.prog w = .ok .skip (w.setCell ⟨B, j, none⟩ (.int k n)) ∧ (execOp ρ o).events Tryd.prog w #[] = #[⟨.cell ⟨B, j, none⟩, true, false⟩] := by
  obtain ⟨u, hc⟩ := h.cell
  have hz := h.thaw
  unfold execOp; simp only [hop, hx, hy]
  have hev := events_store Tryd.prog w #[] ⟨B, j, none⟩ (.int k n) .plain rfl
  simp [go_sem, hev, stored, storedEv, hc, hz]
theorem st35 {B j : Nat} {g : Option Addr} {n c : Nat} (hop : o.op = .store 37 x y) (hx : ρ x = .pointer (some ⟨B, j, none⟩)) (hy : ρ y = .slice g n c) (w : World) (h : Cr.Row w B j) : (execOp ρ o).run Tryd.prog w = .ok .skip (w.setCell ⟨B, j, none⟩ (.slice g n c)) ∧ (execOp ρ o).events Tryd.prog w #[] = #[⟨.cell ⟨B, j, none⟩, true, false⟩] := by
  obtain ⟨u, hc⟩ := h.cell
  have hz := h.thaw
  unfold execOp; simp only [hop, hx, hy]
  have hev := events_store Tryd.prog w #[] ⟨B, j, none⟩ (.slice g n c) .plain rfl
  simp [go_sem, hev, stored, storedEv, hc, hz]
theorem st68 {B j : Nat} {g : Option Addr} {n c : Nat} (hop : o.op = .store 71 x y) (hx : ρ x = .pointer (some ⟨B, j, none⟩)) (hy : ρ y = .slice g n c) (w : World) (h : Cr.Row w B j) : (execOp ρ o).run Tryd.prog w = .ok .skip (w.setCell ⟨B, j, none⟩ (.slice g n c)) ∧ (execOp ρ o).events Tryd.prog w #[] = #[⟨.cell ⟨B, j, none⟩, true, false⟩] := by
  obtain ⟨u, hc⟩ := h.cell
  have hz := h.thaw
  unfold execOp; simp only [hop, hx, hy]
  have hev := events_store Tryd.prog w #[] ⟨B, j, none⟩ (.slice g n c) .plain rfl
  simp [go_sem, hev, stored, storedEv, hc, hz]
theorem st69 {B j : Nat} {c : Option Nat} (hop : o.op = .store 72 x y) (hx : ρ x = .pointer (some ⟨B, j, none⟩)) (hy : ρ y = .chan c) (w : World) (h : Cr.Row w B j) : (execOp ρ o).run Tryd.prog w = .ok .skip (w.setCell ⟨B, j, none⟩ (.chan c)) ∧ (execOp ρ o).events Tryd.prog w #[] = #[⟨.cell ⟨B, j, none⟩, true, false⟩] := by
  obtain ⟨u, hc⟩ := h.cell
  have hz := h.thaw
  unfold execOp; simp only [hop, hx, hy]
  have hev := events_store Tryd.prog w #[] ⟨B, j, none⟩ (.chan c) .plain rfl
  simp [go_sem, hev, stored, storedEv, hc, hz]
theorem box22 {g : Option Addr} {n c : Nat} (hop : o.op = .box 22 x) (hx : ρ x = .slice g n c) (w : World) : (execOp ρ o).run Tryd.prog w = .ok (.value (.pointer (some ⟨w.heap.size, 0, none⟩))) (w.alloc (.cells #[.slice g n c] 22 (0, 0))) ∧ (execOp ρ o).events Tryd.prog w #[] = #[] := by
  unfold execOp; simp only [hop, hx]; simp [go_sem]
theorem box35 {g : Option Addr} {n c : Nat} (hop : o.op = .box 37 x) (hx : ρ x = .slice g n c) (w : World) : (execOp ρ o).run Tryd.prog w = .ok (.value (.pointer (some ⟨w.heap.size, 0, none⟩))) (w.alloc (.cells #[.slice g n c] 37 (0, 0))) ∧ (execOp ρ o).events Tryd.prog w #[] = #[] := by
  unfold execOp; simp only [hop, hx]; simp [go_sem]
theorem box3 {k : IntKind} {n : Int} (hop : o.op = .box 3 x) (hx : ρ x = .int k n) (w : World) : (execOp ρ o).run Tryd.prog w = .ok (.value (.pointer (some ⟨w.heap.size, 0, none⟩))) (w.alloc (.cells #[.int k n] 3 (0, 0))) ∧ (execOp ρ o).events Tryd.prog w #[] = #[] := by
  unfold execOp; simp only [hop, hx]; simp [go_sem]
theorem al3 (hop : o.op = .alloc 3) (w : World) : (execOp ρ o).run Tryd.prog w = .ok (.value (.pointer (some ⟨w.heap.size, 0, none⟩))) (w.alloc (.cells #[.int .i64 0] 3 (0, 0))) ∧ (execOp ρ o).events Tryd.prog w #[] = #[] := by
  unfold execOp; simp only [hop]; simp [go_sem]
theorem al35 (hop : o.op = .alloc 37) (w : World) : (execOp ρ o).run Tryd.prog w = .ok (.value (.pointer (some ⟨w.heap.size, 0, none⟩))) (w.alloc (.cells #[.slice none 0 0] 37 (0, 0))) ∧ (execOp ρ o).events Tryd.prog w #[] = #[] := by
  unfold execOp; simp only [hop]; simp [go_sem]
theorem al68 (hop : o.op = .alloc 71) (w : World) : (execOp ρ o).run Tryd.prog w = .ok (.value (.pointer (some ⟨w.heap.size, 0, none⟩))) (w.alloc (.cells #[.slice none 0 0] 71 (0, 0))) ∧ (execOp ρ o).events Tryd.prog w #[] = #[] := by
  unfold execOp; simp only [hop]; simp [go_sem]
theorem alWg (hop : o.op = .alloc 47) (w : World) : (execOp ρ o).run Tryd.prog w = .ok (.value (.pointer (some ⟨w.heap.size, 0, none⟩))) (w.alloc (.cells #[.int .u64 0, .int .u32 0] 47 (0, 0))) ∧ (execOp ρ o).events Tryd.prog w #[] = #[] := by
  unfold execOp; simp only [hop]; simp [go_sem]
theorem infoL : (Tryd.prog.info? 22).map (fun i => (i.zero, i.size, i.bytes)) = some (some (.slice none 0 0), 1, 24) := by kernel_rfl
theorem infoC : (Tryd.prog.info? 72).map (fun i => (i.zero, i.size, i.bytes)) = some (some (.chan none), 1, 8) := by kernel_rfl
theorem mkRow {t e : TypeId} {z : Value} {y : Nat} (ht : Tryd.prog.underlying t = some (.slice e)) (hi : (Tryd.prog.info? e).map (fun i => (i.zero, i.size, i.bytes)) = some (some z, 1, y)) (hz : z.cells = #[z]) (hy : y ≤ 100) {n : Nat} (hn : n ≤ 60) (hop : o.op = .makeSlice t x x) (hx : ρ x = .int .i64 n) (w : World) :
    (execOp ρ o).run Tryd.prog w = .ok (.value (.slice (some ⟨w.heap.size, 0, none⟩) n n)) (w.alloc (.cells (madeCells #[z] n) e (0, 0))) ∧ (execOp ρ o).events Tryd.prog w #[] = #[] := by
  obtain ⟨i, h1, h2⟩ := Option.map_eq_some_iff.1 hi
  simp only [Prod.mk.injEq] at h2
  obtain ⟨h2, h3, h4⟩ := h2
  have hb : i.bytes * n ≤ 6000 := by rw [h4]; exact Nat.le_trans (Nat.mul_le_mul hy hn) (by omega)
  have hb2 : n * i.bytes ≤ 6000 := by rw [Nat.mul_comm]; exact hb
  have hb' : (i.bytes : Int) * (n : Int) ≤ 6000 := by rw [← Int.natCast_mul]; omega
  have h := run_makeSlice (P := Tryd.prog) w t e i z ht h1 h2 .i64 .i64 n n (by omega) (by omega) (by rw [h3]; simp; omega) (by omega) (by omega)
  have he := events_make (P := Tryd.prog) w t e i z ht h1 h2 .i64 .i64 n n (by omega) (by omega) (by omega) (by omega) (by simp; omega) #[]
  rw [h3, hz] at h
  simp only [Int.toNat_natCast, Nat.mul_one] at h
  unfold execOp; simp only [hop, hx]
  simp [go_sem, h, he]
theorem mk35 {n : Nat} (hn : n ≤ 60) (hop : o.op = .makeSlice 37 x x) (hx : ρ x = .int .i64 n) (w : World) : (execOp ρ o).run Tryd.prog w = .ok (.value (.slice (some ⟨w.heap.size, 0, none⟩) n n)) (w.alloc (.cells (madeCells #[.slice none 0 0] n) 22 (0, 0))) ∧ (execOp ρ o).events Tryd.prog w #[] = #[] :=
  mkRow Tryd.underlying37 infoL rfl (by omega) hn hop hx w
theorem mk68 {n : Nat} (hn : n ≤ 60) (hop : o.op = .makeSlice 71 x x) (hx : ρ x = .int .i64 n) (w : World) : (execOp ρ o).run Tryd.prog w = .ok (.value (.slice (some ⟨w.heap.size, 0, none⟩) n n)) (w.alloc (.cells (madeCells #[.chan none] n) 72 (0, 0))) ∧ (execOp ρ o).events Tryd.prog w #[] = #[] :=
  mkRow Tryd.underlying71 infoC rfl (by omega) hn hop hx w
theorem made_size (v : Value) (n : Nat) : (madeCells #[v] n).size = n := size_madeCells _ _
theorem mkChan (hop : o.op = .makeChan 72 x) (hx : ρ x = .int .i64 1) (w : World) : (execOp ρ o).run Tryd.prog w = .ok (.value (.chan (some w.heap.size))) (w.alloc (.chan 1 #[] false 0 0 false)) ∧ (execOp ρ o).events Tryd.prog w #[] = #[] := by
  obtain ⟨i, h1, h2⟩ := Option.map_eq_some_iff.1 infoL
  simp only [Prod.mk.injEq] at h2
  obtain ⟨_, _, h4⟩ := h2
  have h := run_makeChan (P := Tryd.prog) (w := w) Tryd.underlying72 h1 .i64 1 (by omega) (by rw [h4]; omega)
  have he := events_makeChan (P := Tryd.prog) (w := w) Tryd.underlying72 h1 .i64 1 (by omega) (by rw [h4]; omega) #[]
  rw [show ((1 : Nat) : Int) = 1 from rfl] at h he
  unfold execOp; simp only [hop, hx]
  simp [go_sem, h, he]
end
end Go.Proofs.YtienepcknafddaaDoor
end

section
namespace Cr
open Go Go.Conc Co Go.RowKit
section
variable {P : Program} {ty : TypeId} {Iv : World → Prop} {Wg c : Nat} {J : Jb} {ph : WPh} {r : Rts} {g g' : Goroutine} {w : World} {Post : Value → World → Prop} {σ : Sg} {d : Nat}
theorem guar_load {a : Addr} {S : Loc → Prop} {main sync : Bool} (hr : r.rd (.cell a)) (hn : a.block < w.heap.size) : Guar r S main w w #[⟨.cell a, false, sync⟩] := by
  refine ⟨Turn.refl _ _, fun e he => ?_⟩
  simp only [List.mem_toArray, List.mem_cons, List.not_mem_nil, or_false] at he
  subst he
  exact evok_read hr hn
/-- a load of a cell that one has the right on -/
theorem me_load {a : Addr} {v : Value} (hs : a.spot = none) (hr : g.status = .running) (hv : w.cell? a = some v) (hrd : r.rd (.cell a)) (h : ∀ w1, w1.cell? a = some v → stepG P true g w1 = .go g' w1 #[⟨.cell a, false, false⟩]) (hT : ME P ty Post σ d r g' w) : ME P ty Post σ d r g w := by
  obtain ⟨b, o, s⟩ := a
  obtain rfl : s = none := hs
  refine ME.silent hr fun w1 h1 _ => ?_
  have hc := h1.cell hv hrd
  exact ⟨g', w1, _, h w1 hc, guar_load hrd (cell_lt hc), by rw [new_self]; exact hT.rely h1⟩
/-- a store into a cell that one has the right on: what follows is shown for whatever the others did -/
theorem me_store {b i : Nat} {v : Value} (hr : g.status = .running) (hrow : Row w b i) (hrd : r.rd (.cell ⟨b, i, none⟩)) (hwr : r.wr (.cell ⟨b, i, none⟩)) (h : ∀ w1, Row w1 b i → stepG P true g w1 = .go g' (w1.setCell ⟨b, i, none⟩ v) #[⟨.cell ⟨b, i, none⟩, true, false⟩])
    (hT : ∀ w1, Rely r w w1 → ME P ty Post σ d r g' (w1.setCell ⟨b, i, none⟩ v)) : ME P ty Post σ d r g w := by
  refine ME.silent hr fun w1 h1 _ => ?_
  have hw := hrow.rely h1
  exact ⟨g', _, _, h w1 hw, guar_store hrd hwr rfl (cell_lt hw.cell.choose_spec), by rw [size_setCell, new_self]; exact hT w1 h1⟩
/-- a block is made -/
theorem me_alloc {o : Obj} {gn : Nat → Goroutine} (hr : g.status = .running) (h : ∀ w1, stepG P true g w1 = .go (gn w1.heap.size) (w1.alloc o) #[]) (hT : ∀ w1, Rely r w w1 → σ.iv ty w1 → ME P ty Post σ d (r.new w1.heap.size (w1.heap.size + 1)) (gn w1.heap.size) (w1.alloc o)) : ME P ty Post σ d r g w := by
  have e : ∀ w1 : World, (w1.alloc o).heap.size = w1.heap.size + 1 := fun w1 => by simp
  refine ME.silent hr fun w1 h1 hi => ⟨_, _, _, h w1, ⟨⟨rfl, rfl, rfl, by rw [e]; omega, fun b hb => .inl (.inl (Below.heap_alloc w1 o b hb))⟩, by simp⟩, ?_⟩
  rw [e]
  exact hT w1 h1 hi
end
end Cr
end

section
namespace Cr
open Go Go.Conc Co Go.RowKit
open Go.ConcR (DC0)
section
variable {P : Program} {ty : TypeId} {Post : Value → World → Prop} {σ : Sg} {d : Nat} {r : Rts}
/-- a walk of silent steps, to a record from which it is known -/
theorem me_run {m : Nat} {g : Goroutine} {w : World} (hr : g.status = .running) (hi : σ.iv ty w) (h : Goes P true (RR r (σ.iv ty)) DC0 (fun g1 w1 => ME P ty Post σ d r g1 w1) m g w) : ME P ty Post σ d r g w :=
  ME.goes (Stop := fun g1 w1 => ME P ty Post σ d r g1 w1) (fun _ _ h => h.running) (fun _ w1 _ hi1 h1 => h1 w1 ⟨Rely.refl _ _, hi1⟩) m g w hr hi h
theorem wk_run {Wg c : Nat} {J : Jb} {ph : WPh} {m : Nat} {g : Goroutine} {w : World} (hl : ph.live) (hr : g.status = .running) (h : Goes P false (RR r (fun _ => True)) DC0 (fun g1 w1 => g1.status = .running ∧ WkE P ty (fun _ => True) Wg c J ph r g1 w1) m g w) : WkE P ty (fun _ => True) Wg c J ph r g w :=
  WkE.goes (Stop := fun g1 w1 => g1.status = .running ∧ WkE P ty (fun _ => True) Wg c J ph r g1 w1) hl (fun _ _ h => h.1) (fun _ w1 _ h1 => (h1 w1 ⟨Rely.refl _ _, trivial⟩).2) m g w hr h
variable {b : Frame} {a : _root_.Go.Act} {k : List Item} {cs : List Frame} {w : World} {ops : Array Oper} {i : Nat} {rest : List Nat} {o : Oper}
/-- what an operation lists, where nothing is hushed -/
theorem listed_loud {es : Array Event} (hl : (P.funcs[b.fn]?).any (·.norace) = false) (he : (execOp a.eval o).events P w #[] = es) (hm : ∀ e ∈ es, ∀ f, e.loc ≠ .mark (.extern f)) : listed P b.fn a o w = es := by
  unfold listed
  rw [he, Go.Conc.seen_eq hl hm]
section ops
variable (ho : ops[i]? = some o) (hg : Region.wanted o (yielded ops a.tmps) = true) (hk : b.kind ≠ .early) (hl : (P.funcs[b.fn]?).any (·.norace) = false)
include ho hg hk hl
theorem me_ld {A : Addr} {v : Value} (hs : A.spot = none) (hrun : ∀ w : World, w.cell? A = some v → (execOp a.eval o).run P w = .ok (.value v) w ∧ (execOp a.eval o).events P w #[] = #[⟨.cell A, false, false⟩])
    (hv : w.cell? A = some v) (hrd : r.rd (.cell A)) (hT : ME P ty Post σ d r (G (b.at (a.put o.dst v) (.inRegion ops rest :: k)) cs) w) : ME P ty Post σ d r (G (b.at a (.inRegion ops (i :: rest) :: k)) cs) w :=
  me_load hs rfl hv hrd (fun w1 h1 => by rw [stepG_value ho hg hk (hrun w1 h1).1, listed_loud hl (hrun w1 h1).2 (by simp)]) hT
theorem me_st {B j : Nat} {v : Value} (hrun : ∀ w : World, Row w B j → (execOp a.eval o).run P w = .ok .skip (w.setCell ⟨B, j, none⟩ v) ∧ (execOp a.eval o).events P w #[] = #[⟨.cell ⟨B, j, none⟩, true, false⟩])
    (hrow : Row w B j) (hrd : r.rd (.cell ⟨B, j, none⟩)) (hwr : r.wr (.cell ⟨B, j, none⟩)) (hT : ∀ w1, Rely r w w1 → ME P ty Post σ d r (G (b.at (a.put o.dst undef) (.inRegion ops rest :: k)) cs) (w1.setCell ⟨B, j, none⟩ v)) :
    ME P ty Post σ d r (G (b.at a (.inRegion ops (i :: rest) :: k)) cs) w :=
  me_store rfl hrow hrd hwr (fun w1 h1 => by rw [stepG_none ho hg hk (hrun w1 h1).1, listed_loud hl (hrun w1 h1).2 (by simp)]) hT
theorem me_al {ob : Obj} {f : Nat → Value} (hrun : ∀ w : World, (execOp a.eval o).run P w = .ok (.value (f w.heap.size)) (w.alloc ob) ∧ (execOp a.eval o).events P w #[] = #[])
    (hT : ∀ w1, Rely r w w1 → σ.iv ty w1 → ME P ty Post σ d (r.new w1.heap.size (w1.heap.size + 1)) (G (b.at (a.put o.dst (f w1.heap.size)) (.inRegion ops rest :: k)) cs) (w1.alloc ob)) :
    ME P ty Post σ d r (G (b.at a (.inRegion ops (i :: rest) :: k)) cs) w :=
  me_alloc (gn := fun n => G (b.at (a.put o.dst (f n)) (.inRegion ops rest :: k)) cs) rfl (fun w1 => by rw [stepG_value ho hg hk (hrun w1).1, listed_loud hl (hrun w1).2 (by simp)]) hT
theorem wk_ld {Iv : World → Prop} {Wg c : Nat} {J : Jb} {ph : WPh} (hlv : ph.live) {A : Addr} {v : Value} (hrun : ∀ w : World, w.cell? A = some v → (execOp a.eval o).run P w = .ok (.value v) w ∧ (execOp a.eval o).events P w #[] = #[⟨.cell A, false, false⟩])
    (hs : A.spot = none) (hv : w.cell? A = some v) (hrd : r.rd (.cell A)) (hT : WkE P ty Iv Wg c J ph r (G (b.at (a.put o.dst v) (.inRegion ops rest :: k)) cs) w) : WkE P ty Iv Wg c J ph r (G (b.at a (.inRegion ops (i :: rest) :: k)) cs) w := by
  obtain ⟨B, j, s⟩ := A
  obtain rfl : s = none := hs
  refine WkE.silent hlv rfl fun w1 h1 _ => ?_
  have hc := h1.cell hv hrd
  exact ⟨_, w1, _, by rw [stepG_value ho hg hk (hrun w1 hc).1, listed_loud hl (hrun w1 hc).2 (by simp)], guar_load hrd (cell_lt hc), rfl, by rw [new_self]; exact hT.rely h1⟩
/-- a pure operation of a worker's -/
theorem wk_op {Iv : World → Prop} {Wg c : Nat} {J : Jb} {ph : WPh} (hlv : ph.live) {v : Value} (hrun : ∀ w : World, (execOp a.eval o).run P w = .ok (.value v) w ∧ (execOp a.eval o).events P w #[] = #[])
    (hT : WkE P ty Iv Wg c J ph r (G (b.at (a.put o.dst v) (.inRegion ops rest :: k)) cs) w) : WkE P ty Iv Wg c J ph r (G (b.at a (.inRegion ops (i :: rest) :: k)) cs) w :=
  wk_ctl hlv rfl (fun w1 => by rw [stepG_value ho hg hk (hrun w1).1, listed_loud hl (hrun w1).2 (by simp)]) rfl hT
theorem me_op {v : Value} (hrun : ∀ w : World, (execOp a.eval o).run P w = .ok (.value v) w ∧ (execOp a.eval o).events P w #[] = #[])
    (hT : ME P ty Post σ d r (G (b.at (a.put o.dst v) (.inRegion ops rest :: k)) cs) w) : ME P ty Post σ d r (G (b.at a (.inRegion ops (i :: rest) :: k)) cs) w :=
  me_ctl rfl (fun w1 => by rw [stepG_value ho hg hk (hrun w1).1, listed_loud hl (hrun w1).2 (by simp)]) hT
end ops
end

/-! ### rights -/
section rights
variable {r : Rts} {w w1 : World}
theorem new_rd {n n' : Nat} {l : Loc} (h : r.rd l) : (r.new n n').rd l := .inl h
theorem new_wr {n n' : Nat} {l : Loc} (h : r.wr l) : (r.new n n').wr l := .inl h
theorem new_rd_cell {n : Nat} {a : Addr} (h : a.block = n) : (r.new n (n + 1)).rd (.cell a) := .inr ⟨rfl, by rw [loc_low]; omega, by rw [loc_low]; omega⟩
theorem new_wr_cell {n : Nat} {a : Addr} (h : a.block = n) : (r.new n (n + 1)).wr (.cell a) := .inr ⟨rfl, by rw [loc_low]; omega, by rw [loc_low]; omega⟩
theorem new_rd_obj {n : Nat} : (r.new n (n + 1)).rd (.obj n) := .inr ⟨rfl, by show ¬ _ < _; omega, by show _ < _; omega⟩
/-- what there was -/
structure Past where
  w : World
  K : Nat → Prop
structure KeepB (W0 : Past) (w : World) : Prop where
  os : w.os = W0.w.os
  tape : w.tape = W0.w.tape
  output : w.output = W0.w.output
  blk : ∀ b, W0.K b → w.heap[b]? = W0.w.heap[b]?
/-- THE STARTER's hold: of what there was (the blocks K, below n0) it may read all, and it stands as it was -/
structure Hold (n0 : Nat) (W0 : Past) (r : Rts) (w : World) : Prop where
  sub : ∀ l, r.wr l → r.rd l
  old : ∀ a : Addr, W0.K a.block → r.rd (.cell a)
  oldo : ∀ b, W0.K b → r.rd (.obj b)
  keep : KeepB W0 w
  le : n0 ≤ w.heap.size
  lt : ∀ b, W0.K b → b < n0
variable {n0 : Nat} {W0 : Past}
theorem Hold.rely (h : Hold n0 W0 r w) (k : Rely r w w1) : Hold n0 W0 r w1 :=
  ⟨h.sub, h.old, h.oldo, ⟨k.os.trans h.keep.os, k.tape.trans h.keep.tape, k.output.trans h.keep.output, fun b hb => (Turn.block k (Nat.lt_of_lt_of_le (h.lt b hb) h.le) fun i c => c (h.old ⟨b, i, none⟩ hb)).trans (h.keep.blk b hb)⟩, Nat.le_trans h.le k.size, h.lt⟩
theorem Hold.alloc (h : Hold n0 W0 r w) (o : Obj) : Hold n0 W0 (r.new w.heap.size (w.heap.size + 1)) (w.alloc o) := by
  have e : (w.alloc o).heap.size = w.heap.size + 1 := by simp
  refine ⟨fun l hl => hl.imp (h.sub l) id, fun a ha => .inl (h.old a ha), fun b hb => .inl (h.oldo b hb), ⟨h.keep.os, h.keep.tape, h.keep.output, fun b hb => (Below.heap_alloc w o b (Nat.lt_of_lt_of_le (h.lt b hb) h.le)).trans (h.keep.blk b hb)⟩, by rw [e]; have := h.le; omega, h.lt⟩
theorem Hold.set (h : Hold n0 W0 r w) {a : Addr} (ha : n0 ≤ a.block) (v : Value) : Hold n0 W0 r (w.setCell a v) :=
  ⟨h.sub, h.old, h.oldo, ⟨h.keep.os, h.keep.tape, h.keep.output, fun b hb => (Below.heap_setCell w a v b (by have := h.lt b hb; omega)).trans (h.keep.blk b hb)⟩, by rw [size_setCell]; exact h.le, h.lt⟩
/-! rights that are lent, rights that are kept -/
def Rts.keepOf (r : Rts) (X D : Loc → Prop) : Rts := ⟨fun l => r.rd l ∧ ¬ D l, fun l => r.wr l ∧ ¬ X l ∧ ¬ D l⟩
def lend (X D : Loc → Prop) : Rts := ⟨fun l => X l ∨ D l, D⟩
theorem split_lend {X D D' : Loc → Prop} (hs : ∀ l, r.wr l → r.rd l) (hX : ∀ l, X l → r.rd l) (hD : ∀ l, D l → r.wr l) (hDD : ∀ l, D' l → D l) : Split r (r.keepOf X D) (lend X D') :=
  ⟨fun _ h => h.1, fun l h => h.elim (hX l) fun h => hs l (hD l (hDD l h)), fun _ h => h.1, fun l h => hD l (hDD l h), fun l h c => c.elim h.2.1 fun c => h.2.2 (hDD l c), fun l h c => c.2 (hDD l h), fun l h => ⟨hs l h.1, h.2.2⟩, fun _ h => .inr h,
    fun l h => by
      by_cases hd : D l
      · exact .inr (.inr (hD l hd))
      · exact .inl ⟨h, hd⟩⟩
theorem Hold.split (h : Hold n0 W0 r w) {X D : Loc → Prop} (hD : ∀ a, D (.cell a) → n0 ≤ a.block) (hDo : ∀ b, ¬ D (.obj b)) : Hold n0 W0 (r.keepOf X D) w :=
  ⟨fun l hl => ⟨h.sub l hl.1, hl.2.2⟩, fun a ha => ⟨h.old a ha, fun c => by have := hD a c; have := h.lt _ ha; omega⟩, fun b hb => ⟨h.oldo b hb, hDo b⟩, h.keep, h.le, h.lt⟩
theorem Hold.full (h : Hold n0 W0 r w) (qs : List Rts) : Hold n0 W0 (r.full qs) w := ⟨fun _ h => h, fun a ha => .inl (h.old a ha), fun b hb => .inl (h.oldo b hb), h.keep, h.le, h.lt⟩
theorem Hold.join (h : Hold n0 W0 r w) {q : Rts} (hq : ∀ l, q.wr l → q.rd l) : Hold n0 W0 (r.join q) w := ⟨fun l hl => hl.imp (h.sub l) (hq l), fun a ha => .inl (h.old a ha), fun b hb => .inl (h.oldo b hb), h.keep, h.le, h.lt⟩
end rights
end Cr
end

section
namespace Cr
open Go Go.Conc Co Go.RowKit
section
variable {P : Program} {ty : TypeId} {Post : Value → World → Prop} {r : Rts} {b : Frame} {a : _root_.Go.Act} {k : List Item} {cs : List Frame} {w : World} {ops : Array Oper} {i : Nat} {rest : List Nat} {o : Oper}
/-- the deferred close of a channel -/
def dclose (c : Nat) (ats : Array TypeId) (t : TypeId) (bs : Array Bool) : Deferred := { target := .builtin .close ats t bs, args := #[.chan (some c)] }
theorem stepG_deferC {main : Bool} {x : Tmp} {ats : Array TypeId} {c : Nat} (ho : ops[i]? = some o) (hw : Region.wanted o (yielded ops a.tmps) = true) (hk : b.kind ≠ .early)
    (hop : o.op = .defer { callee := .builtin .close, args := #[.tmp x], argTypes := ats }) (hx : a.eval (.tmp x) = .chan (some c)) :
    stepG P main (G (b.at a (.inRegion ops (i :: rest) :: k)) cs) w = .go (G (b.at (_root_.Go.Act.put ⟨a.tmps, dclose c ats o.type #[false] :: a.defers⟩ o.dst undef) (.inRegion ops rest :: k)) cs) w #[] := by
  have hr : (execOp a.eval o).run P w = .ok (.defer (dclose c ats o.type #[false])) w := by
    unfold execOp
    simp [hop, resolve, dclose, hx]
  have he : (execOp a.eval o).events P w #[] = #[] := by
    unfold execOp
    simp [hop, resolve]
  have hfin : (b.at ⟨a.tmps, dclose c ats o.type #[false] :: a.defers⟩ (.inRegion ops (i :: rest) :: k)).finish undef = b.at (_root_.Go.Act.put ⟨a.tmps, dclose c ats o.type #[false] :: a.defers⟩ o.dst undef) (.inRegion ops rest :: k) := by rw [Frame.finish_at, ho]; rfl
  have hk' : (b.kind == CallKind.early) = false := by simpa using hk
  rw [stepG_oper ho hw, ← hfin]
  simp [stepG.apply, hr, he, G, Frame.at, hk', GStep.after, seen_none]
theorem stepG_close {main : Bool} {todo : List Item} {ds : List Deferred} {c : Nat} {ats : Array TypeId} {t : TypeId} {bs : Array Bool} (hd : a.defers = dclose c ats t bs :: ds) (hl : (P.funcs[b.fn]?).any (·.norace) = false)
    {cap s rc : Nat} {buf : Array Value} {tm : Bool} (hc : w.heap[c]? = some (.chan cap buf false s rc tm)) :
    stepG P main (G { b.at a todo with mode := .returning } cs) w = .go (G { b.at ⟨a.tmps, ds⟩ todo with mode := .returning } cs) (w.setChan c cap buf true s rc tm) (closeEvents c) := by
  have hr : (invoke (.builtin .close ats t bs) #[.chan (some c)]).run P w = .ok (.value (.tuple #[])) (w.setChan c cap buf true s rc tm) := by
    simp [invoke, builtin, run_close_open _ _ hc, World.setChan]
  have he : (invoke (.builtin .close ats t bs) #[.chan (some c)]).events P w #[] = closeEvents c := by
    simp [invoke, builtin, events_close_open _ _ hc, closeEvents]
  have hs : seen P b.fn (closeEvents c) = closeEvents c := Go.Conc.seen_eq hl (by simp [closeEvents])
  simp [G, stepG, unwind, callDeferred, Frame.at, hd, dclose, hr, he, hs, GStep.after]
theorem mayWake_ret {todo : List Item} : mayWake P (G { b.at a todo with mode := .returning } cs) = true := rfl
/-- a send -/
theorem wk_send {Iv : World → Prop} {Wg c : Nat} {J : Jb} {x y : Operand} {v : Value} (ho : ops[i]? = some o) (hg : Region.wanted o (yielded ops a.tmps) = true) (hk : b.kind ≠ .early) (hop : o.op = .send x y) (hx : a.eval x = .chan (some c)) (hy : a.eval y = v)
    (hT : WkE P ty Iv Wg c J (.sent v) r (G (b.at (a.put o.dst undef) (.inRegion ops rest :: k)) cs) w) : WkE P ty Iv Wg c J .open_ r (G (b.at a (.inRegion ops (i :: rest) :: k)) cs) w := by
  have hr : ∀ w1 : World, (execOp a.eval o).run P w1 = .ok (.comm #[scase c v (.tuple #[])] true .send) w1 := fun w1 => by
    unfold execOp; simp [hop, hx, hy, scase]
  have he : ∀ w1 : World, listed P b.fn a o w1 = #[] := fun w1 => by
    have e0 : (execOp a.eval o).events P w1 #[] = #[] := by unfold execOp; simp [hop]
    unfold listed; rw [e0]; exact seen_none P _
  refine WkE.send (v := v) (z' := .tuple #[]) rfl fun w1 h1 _ => ⟨_, #[], by rw [stepG_comm ho hg hk (hr w1), he], by simp, ?_⟩
  rw [served_G, ho]
  exact hT.rely h1
/-- a receive -/
theorem me_recv {c : Nat} {J : Jb} {cl : List Ch} {t e : TypeId} {dir : ChanDir} {x : Operand} {z : Value} (ho : ops[i]? = some o) (hg : Region.wanted o (yielded ops a.tmps) = true) (hk : b.kind ≠ .early) (hop : o.op = .recv t x true) (hx : a.eval x = .chan (some c)) (ht : P.underlying t = some (.chan dir e)) (hz : ∀ w : World, (zeroValue e).run P w = .ok z w ∧ (zeroValue e).events P w #[] = #[])
    (hT : ∀ w1, Rely r w w1 → ∀ v, Heard J v → ME P ty Post (.chs (⟨c, J, some v⟩ :: cl)) 0 r (G (b.at (a.put o.dst (.tuple #[v, .bool true])) (.inRegion ops rest :: k)) cs) w1) : ME P ty Post (.chs (⟨c, J, none⟩ :: cl)) 0 r (G (b.at a (.inRegion ops (i :: rest) :: k)) cs) w := by
  have hr : ∀ w1 : World, (execOp a.eval o).run P w1 = .ok (.comm #[rcase c z] true (.recv true)) w1 := fun w1 => by
    unfold execOp; simp [hop, hx, run_underlying ht, (hz w1).1, rcase]
  have he : ∀ w1 : World, listed P b.fn a o w1 = #[] := fun w1 => by
    have e0 : (execOp a.eval o).events P w1 #[] = #[] := by unfold execOp; simp [hop, hx, run_underlying ht, (hz w1).1, (hz w1).2]
    unfold listed; rw [e0]; exact seen_none P _
  refine ME.recv (z := z) rfl (fun w1 h1 => ⟨#[], by rw [stepG_comm ho hg hk (hr w1), he], by simp⟩) fun w1 h1 v hv => ?_
  rw [served_G, ho]
  exact hT w1 h1 v hv
theorem me_hear {c : Nat} {J : Jb} {cl : List Ch} {m : Value} {t e : TypeId} {dir : ChanDir} {x : Operand} {z : Value} (ho : ops[i]? = some o) (hg : Region.wanted o (yielded ops a.tmps) = true) (hk : b.kind ≠ .early) (hop : o.op = .recv t x true) (hx : a.eval x = .chan (some c)) (ht : P.underlying t = some (.chan dir e)) (hz : ∀ w : World, (zeroValue e).run P w = .ok z w ∧ (zeroValue e).events P w #[] = #[])
    (h2 : ∀ w1, Rely r w w1 → ∀ q, J m q w1 → cl = [] → ME P ty Post (.chs []) 0 (r.full [q]) (G (b.at (a.put o.dst (.tuple #[z, .bool false])) (.inRegion ops rest :: k)) cs) w1)
    (h3 : ∀ w1, Rely r w w1 → ∀ q, J m q w1 → cl ≠ [] → ME P ty Post (.chs cl) 0 (r.join q) (G (b.at (a.put o.dst (.tuple #[z, .bool false])) (.inRegion ops rest :: k)) cs) w1) : ME P ty Post (.chs (⟨c, J, some m⟩ :: cl)) 0 r (G (b.at a (.inRegion ops (i :: rest) :: k)) cs) w := by
  have hr : ∀ w1 : World, (execOp a.eval o).run P w1 = .ok (.comm #[rcase c z] true (.recv true)) w1 := fun w1 => by
    unfold execOp; simp [hop, hx, run_underlying ht, (hz w1).1, rcase]
  have he : ∀ w1 : World, listed P b.fn a o w1 = #[] := fun w1 => by
    have e0 : (execOp a.eval o).events P w1 #[] = #[] := by unfold execOp; simp [hop, hx, run_underlying ht, (hz w1).1, (hz w1).2]
    unfold listed; rw [e0]; exact seen_none P _
  refine ME.hear (z := z) rfl (fun w1 h1 => ⟨#[], by rw [stepG_comm ho hg hk (hr w1), he], by simp⟩) (fun w1 h1 q hq hc => ?_) fun w1 h1 q hq hc => ?_
  · rw [served_G, ho]; exact h2 w1 h1 q hq hc
  · rw [served_G, ho]; exact h3 w1 h1 q hq hc
/-- a go statement: what it does -/
theorem stepG_go {main : Bool} {x : Operand} {ats : Array TypeId} {f : Fn} {cap : Array Value} (ho : ops[i]? = some o) (hg : Region.wanted o (yielded ops a.tmps) = true) (hk : b.kind ≠ .early) (hop : o.op = .go { callee := .value x, args := #[], argTypes := ats }) (hx : a.eval x = .func f #[] cap) (w : World) :
    stepG P main (G (b.at a (.inRegion ops (i :: rest) :: k)) cs) w = .spawn (G (b.at (a.put o.dst undef) (.inRegion ops rest :: k)) cs) (born P { target := .fn f cap, args := #[] }) w #[] := by
  have hr : (execOp a.eval o).run P w = .ok (.spawn { target := .fn f cap, args := #[] }) w := by
    unfold execOp; simp [hop, resolve, Deferred.ofValue, hx]
  have he : listed P b.fn a o w = #[] := by
    have e0 : (execOp a.eval o).events P w #[] = #[] := by unfold execOp; simp [hop, resolve, Deferred.ofValue, hx]
    unfold listed; rw [e0]; exact seen_none P _
  rw [stepG_spawn ho hg hk hr rfl, he]
end
end Cr
end

section
namespace Co
open Go
variable {ops : Array Oper} {n : Nat} {r : List Nat}
theorem getD_tf {x : Array Bool} {j : Nat} (h : x.getD j true = false) : x.getD j false = false := by
  rw [Array.getD_eq_getD_getElem?] at h ⊢
  cases hx : x[j]? with
  | none => rfl
  | some v => rw [hx] at h; exact h
theorem OrdInv.left {l : List Nat} (h : OrdInv ops l) : ∃ x : Array Bool, (∀ j ∈ l, x.getD j false = false) ∧ (∀ n r, l = n :: r → ∀ o, ops[n]? = some o → ∀ e ∈ o.after, Region.binds .any e = true → x.getD e.on false = true) ∧ Closed ops .any x := by
  obtain ⟨x, h1, h2, h5⟩ := h
  refine ⟨x, fun j hj => getD_tf (ordered_fresh h2 hj), fun n r e => ?_, h5⟩
  subst e
  exact h2.2.1
/-- what an operation must come behind has been done -/
theorem OrdInv.done (h : OrdInv ops (n :: r)) {o : Oper} {e : Edge} (ho : ops[n]? = some o) (he : e ∈ o.after) (hb : Region.binds .any e = true) : e.on ∉ n :: r := by
  obtain ⟨x, h1, h2, _⟩ := h.left
  have hx := h2 n r rfl o ho e he hb
  intro hm
  rw [h1 _ hm] at hx
  cases hx
def chain (ops : Array Oper) : List Nat → List Nat → Bool
  | _, [] => true
  | seen, j :: L => (seen.any fun m => (ops[m]?).any fun o => o.after.any fun e => e.on == j && Region.binds .any e) && chain ops (j :: seen) L
theorem chain_listed {x : Array Bool} (hn : ∀ o, ops[n]? = some o → ∀ e ∈ o.after, Region.binds .any e = true → x.getD e.on false = true) (hc : Closed ops .any x) : ∀ (L seen : List Nat), (∀ m ∈ seen, m = n ∨ x.getD m false = true) → chain ops seen L = true → ∀ j ∈ L, x.getD j false = true
  | [], _, _, _, _, hj => by cases hj
  | a :: L, seen, hs, h, j, hj => by
    simp only [chain, Bool.and_eq_true] at h
    have ha : x.getD a false = true := by
      obtain ⟨m, hm, h1⟩ := List.any_eq_true.1 h.1
      obtain ⟨o, ho, h2⟩ := (Option.any_eq_true _ _).1 h1
      obtain ⟨e, he, h3⟩ := Array.any_eq_true'.1 h2
      simp only [Bool.and_eq_true, beq_iff_eq] at h3
      rcases hs m hm with rfl | hx
      · rw [← h3.1]; exact hn o ho e he h3.2
      · rw [← h3.1]; exact hc m o hx ho e he h3.2
    rcases List.mem_cons.1 hj with rfl | hj
    · exact ha
    · refine chain_listed hn hc L (a :: seen) (fun m hm => ?_) h.2 j hj
      rcases List.mem_cons.1 hm with rfl | hm
      · exact .inr ha
      · exact hs m hm
/-- an operation behind which nothing is left -/
theorem OrdInv.last (h : OrdInv ops (n :: r)) {L : List Nat} (hc : chain ops [n] L = true) (hall : ∀ j, j < ops.size → j = n ∨ j ∈ L) : r = [] := by
  obtain ⟨x, h1, h2, h3⟩ := h.left
  have hl := chain_listed (h2 n r rfl) h3 L [n] (fun m hm => .inl (by simpa using hm)) hc
  match r, h with
  | [], _ => rfl
  | a :: r, h =>
    have hlt := h.lt a (by simp)
    rcases hall a hlt with rfl | hm
    · obtain ⟨y, _, ⟨y1, _, y2⟩, _⟩ := h
      have hs := y2.1
      rw [Array.getD_eq_getD_getElem?] at y1
      cases hx : y[a]? with
      | none => rw [hx] at y1; cases y1
      | some v =>
        have hlt := (Array.getElem?_eq_some_iff.1 hx).1
        rw [Array.getD_eq_getD_getElem?, Array.getElem?_setIfInBounds_self_of_lt hlt] at hs
        cases hs
    · have := hl a hm
      rw [h1 a (by simp)] at this
      cases this
/-- .. whose operations are all done -/
theorem OrdInv.all_done (h : OrdInv ops (n :: r)) {L : List Nat} (hc : chain ops [n] L = true) : ∀ j ∈ L, j ∉ n :: r := by
  obtain ⟨x, h1, h2, h3⟩ := h.left
  have hl := chain_listed (h2 n r rfl) h3 L [n] (fun m hm => .inl (by simpa using hm)) hc
  intro j hj hm
  have := hl j hj
  rw [h1 j hm] at this
  cases this
end Co
end

section
set_option linter.unusedVariables false
set_option linter.unusedVariables false
set_option linter.unusedSimpArgs false
namespace Go.Proofs.YtienepcknafddaaDoor
open Go Go.RowKit Go.Conc Co Cr SimPlain HeapPlain SymPlain

/-- a list's row -/
structure PB (w : World) (g : Option Addr) (c : Nat) (W : List Ev) : Prop where
  at_ : EvA w g W
  shape : (g = none ∧ c = 0) ∨ ∃ b, g = some ⟨b, 0, none⟩
  cap : W.length ≤ c
  ex : ∀ b, g = some ⟨b, 0, none⟩ → CellsAt w b
/-- block b may be read -/
def RdB (r : Rts) (b : Nat) : Prop := r.rd (.obj b) ∧ ∀ a : Addr, a.block = b → r.rd (.cell a)
/-- .. that may be read -/
structure PA (r : Rts) (w : World) (g : Option Addr) (c : Nat) (W : List Ev) : Prop where
  pb : PB w g c W
  rd : W ≠ [] → ∀ b, g = some ⟨b, 0, none⟩ → RdB r b
  gl : ∀ b, g = some ⟨b, 0, none⟩ → Tryd.prog.globals.size ≤ b
section
variable {r r' : Rts} {w w' : World} {g : Option Addr} {c : Nat} {W : List Ev}
theorem cov_S {D : Nat → Prop} : Cov (gr Tryd.prog w D (fun b => ¬ RdB r b) (fun _ => False)) r :=
  ⟨fun b hb hs a ha => (Classical.not_not.1 hs).2 a ha, fun b hb hs => (Classical.not_not.1 hs).1, fun b i hb hm => hm.1.elim⟩
theorem PB.off (h : PB w g c W) (hW : W ≠ []) : ∃ b, g = some ⟨b, 0, none⟩ ∧ b < w.heap.size ∧ ∀ i, i < W.length → w.cell? ⟨b, i * 2, none⟩ = some (.int .i64 (W.getD i e0).t) ∧ w.cell? ⟨b, i * 2 + 1, none⟩ = some (.int .i64 (W.getD i e0).id) := by
  rcases h.at_ with e | ⟨b, o, e, h1, h2⟩
  · exact absurd e hW
  · rcases h.shape with ⟨e', _⟩ | ⟨b', e'⟩
    · rw [e] at e'; cases e'
    · rw [e] at e'
      simp only [Option.some.injEq, Addr.mk.injEq, and_true] at e'
      obtain ⟨rfl, rfl⟩ := e'
      exact ⟨b, e, h1, fun i hi => by simpa using h2 i hi⟩
theorem PB.mk' (hs : (g = none ∧ c = 0) ∨ ∃ b, g = some ⟨b, 0, none⟩) (hc : W.length ≤ c) (he : ∀ b, g = some ⟨b, 0, none⟩ → CellsAt w b) (h : W ≠ [] → ∀ b, g = some ⟨b, 0, none⟩ → ∀ i, i < W.length → w.cell? ⟨b, i * 2, none⟩ = some (.int .i64 (W.getD i e0).t) ∧ w.cell? ⟨b, i * 2 + 1, none⟩ = some (.int .i64 (W.getD i e0).id)) : PB w g c W := by
  refine ⟨?_, hs, hc, he⟩
  by_cases hW : W = []
  · exact .inl hW
  · rcases hs with ⟨_, e⟩ | ⟨b, e⟩
    · subst e
      exact absurd (List.length_eq_zero_iff.1 (by omega)) hW
    · refine .inr ⟨b, 0, e, ?_, fun i hi => by simpa using h hW b e i hi⟩
      obtain ⟨_, _, _, e⟩ := he b e
      exact (Array.getElem?_eq_some_iff.1 e).1
theorem PB.carry {ok : FuncId → Prop} {ρ : Ren} (hw : WR ok ρ w w') {n : Nat} {v : Value} (h : PB w g c W) (hv : VR ok ρ (.slice g n c) v) : ∃ g', v = .slice g' n c ∧ PB w' g' c W ∧ ∀ b, g = some ⟨b, 0, none⟩ → ρ.dom b ∧ g' = some ⟨ρ.to b, 0, none⟩ := by
  cases hv with
  | slNil =>
    refine ⟨none, rfl, ⟨?_, ?_, h.cap, fun b e => by cases e⟩, fun b e => by cases e⟩
    · rcases h.at_ with c | ⟨_, _, c, _⟩
      · exact .inl c
      · cases c
    · rcases h.shape with c | ⟨_, c⟩
      · exact .inl c
      · cases c
  | sl _ _ ha =>
    rcases h.shape with ⟨c, _⟩ | ⟨b, e⟩
    · cases c
    · obtain rfl := Option.some.inj e
      obtain ⟨hd, rfl⟩ := ha
      refine ⟨_, rfl, ⟨h.at_.carry hw hd, .inr ⟨_, rfl⟩, h.cap, fun b' e' => ?_⟩, fun b' e' => ?_⟩
      · simp only [Option.some.injEq, Addr.mk.injEq, and_true] at e'
        subst e'
        exact (h.ex b rfl).carry hw hd
      · simp only [Option.some.injEq, Addr.mk.injEq, and_true] at e'
        subst e'
        exact ⟨hd, rfl⟩
theorem PA.rely (h : PA r w g c W) (k : Rely r w w') : PA r w' g c W := by
  refine ⟨PB.mk' h.pb.shape h.pb.cap (fun b e => (h.pb.ex b e).turn k) fun hW b e i hi => ?_, h.rd, h.gl⟩
  obtain ⟨b', e', _, h2⟩ := h.pb.off hW
  rw [e] at e'
  simp only [Option.some.injEq, Addr.mk.injEq, and_true] at e'
  subst e'
  have hr := (h.rd hW b e).2
  exact ⟨k.cell (h2 i hi).1 (hr _ rfl), k.cell (h2 i hi).2 (hr _ rfl)⟩
theorem PA.mono (h : PA r w g c W) (e : ∀ l, r.rd l → r'.rd l) : PA r' w g c W := ⟨h.pb, fun a b k => ⟨e _ (h.rd a b k).1, fun x hx => e _ ((h.rd a b k).2 x hx)⟩, h.gl⟩
theorem CellsAt.alloc {b : Nat} (h : CellsAt w b) (o : Obj) : CellsAt (w.alloc o) b := by
  obtain ⟨x, t, fr, e⟩ := h
  exact ⟨x, t, fr, (Below.heap_alloc w o b (Array.getElem?_eq_some_iff.1 e).1).trans e⟩
theorem PB.below {n : Nat} (h : PB w g c W) (k : Below w.heap.size w w') : PB w' g c W := by
  refine PB.mk' h.shape h.cap (fun b e => ?_) fun hW b e i hi => ?_
  · obtain ⟨x, t, fr, e1⟩ := h.ex b e
    exact ⟨x, t, fr, (k.block b (Array.getElem?_eq_some_iff.1 e1).1).trans e1⟩
  · obtain ⟨b', e', hl, h2⟩ := h.off hW
    rw [e] at e'
    simp only [Option.some.injEq, Addr.mk.injEq, and_true] at e'
    subst e'
    exact ⟨(k.cell (p := ⟨b, i * 2, none⟩) hl).trans (h2 i hi).1, (k.cell (p := ⟨b, i * 2 + 1, none⟩) hl).trans (h2 i hi).2⟩
theorem PA.alloc (h : PA r w g c W) (o : Obj) : PA r (w.alloc o) g c W := ⟨PB.below (n := 0) h.pb ((Below.refl _ _).alloc (Nat.le_refl _) o), h.rd, h.gl⟩
theorem PA.set (h : PA r w g c W) {a : Addr} (ha : W ≠ [] → ∀ b, g = some ⟨b, 0, none⟩ → b ≠ a.block) (v : Value) : PA r (w.setCell a v) g c W := by
  refine ⟨PB.mk' h.pb.shape h.pb.cap (fun b e => (h.pb.ex b e).set a v) fun hW b e i hi => ?_, h.rd, h.gl⟩
  obtain ⟨b', e', _, h2⟩ := h.pb.off hW
  rw [e] at e'
  simp only [Option.some.injEq, Addr.mk.injEq, and_true] at e'
  subst e'
  have key : ∀ x : Addr, x.block = b → (w.setCell a v).cell? x = w.cell? x := fun x hx => World.cell?_of_block (heap_setCell_other w a x.block _ (by rw [hx]; exact fun c => ha hW b e c))
  exact ⟨(key _ rfl).trans (h2 i hi).1, (key _ rfl).trans (h2 i hi).2⟩
theorem PB.of_own {B : Nat} (h : EtOwn w B g c W) : PB w g c W := by
  have hcap := etcap h
  rcases h.2 with ⟨h', hz⟩ | ⟨b, cap', cur, h', hb, hg, hc, _, hs, ht⟩
  · simp only [Value.slice.injEq] at h'
    obtain ⟨rfl, _, rfl⟩ := h'
    exact PB.mk' (.inl ⟨rfl, rfl⟩) hcap (fun b e => by cases e) fun _ b e => by cases e
  · simp only [Value.slice.injEq, true_and] at h'
    obtain ⟨rfl, rfl⟩ := h'
    refine PB.mk' (.inr ⟨b, rfl⟩) hcap (fun x e => ?_) fun hW x e i hi => ?_
    · simp only [Option.some.injEq, Addr.mk.injEq, and_true] at e
      subst e
      exact ⟨_, _, _, hg⟩
    · obtain ⟨b', e', _, _, h2⟩ := h.open (List.length_pos_iff.2 hW)
      rw [e] at e'
      simp only [Option.some.injEq, Addr.mk.injEq, and_true] at e'
      subst e'
      exact h2 i hi
theorem SoR.pb {part : List Ev} (h : SoR part g c W w) : PB w g c W := ⟨h.at_, h.shape, h.cap, h.ex⟩
/-- a sorted list of items, as Merge wants it -/
theorem rises_of {W : List Ev} (h : W.Pairwise SimPlain.Lt) : Rises W := fun i hi => by
  have h1 : i < W.length := by omega
  have := List.pairwise_iff_getElem.1 h i (i + 1) h1 hi (by omega)
  rw [List.getD_eq_getElem?_getD, List.getD_eq_getElem?_getD, List.getElem?_eq_getElem h1, List.getElem?_eq_getElem hi]
  simp only [Option.getD_some]
  unfold SimPlain.Lt at this
  omega
theorem chkI_of {W : List Ev} (h1 : W.length ≤ 60) (h2 : ∀ e ∈ W, okE e = true) : chkI W = 0 := by
  unfold chkI
  rw [if_neg (by omega), if_pos (List.all_eq_true.2 h2)]
end
end Go.Proofs.YtienepcknafddaaDoor
end
