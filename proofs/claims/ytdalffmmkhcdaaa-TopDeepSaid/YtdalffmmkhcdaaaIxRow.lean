/- Places that are sorted by a closure: their row, their surroundings (what the closure reads), and an exchange. -/
import Derived.Test.YtdalffmmkhcdaaaEvRow
import Derived.Test.YtdalffmmkhcdaaaSymPlain
import Derived.BigRegion
import Derived.BigQuiet
import Derived.StillTailTactics
import Derived.Laws.EntriesVeiled
import Derived.Deep.RegionHeld3
set_option linter.unusedVariables false
set_option linter.unusedSimpArgs false
namespace Go.Proofs.Ytdalffmmkhcdaaa
open Go Go.RowKit SimPlain HeapPlain SymPlain

/-- what cmp.Compare tells -/
def cmpZ (x y : Int) : Int := if x < y then -1 else if y < x then 1 else 0
theorem cmpZ_less {x y : Int} (h : x < y) : cmpZ x y = -1 := by unfold cmpZ; rw [if_pos h]
theorem cmpZ_not {x y : Int} (h : ¬ x < y) : 0 ≤ cmpZ x y := by unfold cmpZ; rw [if_neg h]; split <;> decide
/-- the surroundings: where the call's own blocks begin, the world that the closure reads, its two boxes, which places may stand there (x.s the place, x.t what it is sorted by), what the closure does -/
structure IxE where
  base : Nat
  w0 : World
  p1 : Nat
  p2 : Nat
  G : Ev → Prop
  cmp : ∀ (x y : Ev) (W : World), G x → G y → Below base w0 W → Calls Try.prog 25 #[.int .i64 x.s, .int .i64 y.s, .pointer (some ⟨p1, 0, none⟩), .pointer (some ⟨p2, 0, none⟩)] W
    fun e w' => e = .returned (.int .i64 (cmpZ x.t y.t)) ∧ Only W w' (fun _ => False)
def fvK (B : IxE) : Value := .func (.func 25) #[] #[.pointer (some ⟨B.p1, 0, none⟩), .pointer (some ⟨B.p2, 0, none⟩)]
def ixVals (l : List Ev) : Array Value := (l.map fun e => Value.int .i64 e.s).toArray
/-- places of the call's own, in a whole block -/
structure IxOwn (w : World) (B : IxE) (a : Option Addr) (cap : Nat) (l : List Ev) : Prop where
  ex : ∃ g, a = some ⟨g, 0, none⟩ ∧ B.base ≤ g ∧ w.heap[g]? = some (.cells (ixVals l) 3 (0, 0))
  env : Below B.base B.w0 w
  good : ∀ x ∈ l, B.G x
theorem IxOwn.at {w : World} {B : IxE} {g cap : Nat} {l : List Ev} (h : IxOwn w B (some ⟨g, 0, none⟩) cap l) : B.base ≤ g ∧ w.heap[g]? = some (.cells (ixVals l) 3 (0, 0)) := by
  obtain ⟨g', e, h1, h2⟩ := h.ex
  obtain rfl : g = g' := by simpa using e
  exact ⟨h1, h2⟩
theorem IxOwn.free {w : World} {B : IxE} {g cap : Nat} {l : List Ev} (h : IxOwn w B (some ⟨g, 0, none⟩) cap l) (_h0 : 0 < l.length) (o : Nat) : w.frozen? ⟨g, o, none⟩ = false := by
  simp [World.frozen?, h.at.2]
theorem IxOwn.cells {w : World} {B : IxE} {g cap : Nat} {l : List Ev} (h : IxOwn w B (some ⟨g, 0, none⟩) cap l) (i : Nat) (hi : i < l.length) {x : Ev} (hx : l.getD i e0 = x) :
    w.cell? ⟨g, i, none⟩ = some (.int .i64 x.s) := by
  subst hx
  rw [getD_lt e0 l i hi]
  simp [World.cell?, h.at.2, ixVals, hi]
theorem IxOwn.block {w : World} {B : IxE} {g cap : Nat} {l : List Ev} (h : IxOwn w B (some ⟨g, 0, none⟩) cap l) (_h0 : 0 < l.length) : ∃ cs, w.heap[g]? = some (.cells cs 3 (0, 0)) := ⟨_, h.at.2⟩
theorem IxOwn.goodAt {w : World} {B : IxE} {a : Option Addr} {cap : Nat} {l : List Ev} (h : IxOwn w B a cap l) (i : Nat) (hi : i < l.length) {x : Ev} (hx : l.getD i e0 = x) : B.G x := by
  subst hx
  rw [getD_lt e0 l i hi]
  exact h.good _ (List.getElem_mem hi)
/-- a place stored -/
theorem IxOwn.set {w : World} {B : IxE} {g cap : Nat} {l : List Ev} (h : IxOwn w B (some ⟨g, 0, none⟩) cap l) (i : Nat) (e : Ev) (he : B.G e) :
    IxOwn (w.setCell ⟨g, i, none⟩ (.int .i64 e.s)) B (some ⟨g, 0, none⟩) cap (l.set i e) := by
  refine ⟨⟨g, rfl, h.at.1, ?_⟩, h.env.setCell (p := ⟨g, i, none⟩) h.at.1 _, fun x hx => ?_⟩
  · rw [heap_setCell_same w g i _ _ _ h.at.2]
    simp [ixVals, List.map_set]
  · rcases List.mem_or_eq_of_mem_set hx with c | c
    · exact h.good x c
    · rw [c]; exact he
/-- the exchange of two places -/
def swapT (w : World) (g i j : Nat) (u v : Ev) : World := (w.setCell ⟨g, i, none⟩ (.int .i64 v.s)).setCell ⟨g, j, none⟩ (.int .i64 u.s)
theorem IxOwn.swap {w : World} {B : IxE} {g cap : Nat} {l : List Ev} (h : IxOwn w B (some ⟨g, 0, none⟩) cap l) (i j : Nat) (hi : i < l.length) (hj : j < l.length) {u v : Ev} (hu : l.getD i e0 = u) (hv : l.getD j e0 = v) :
    IxOwn (swapT w g i j u v) B (some ⟨g, 0, none⟩) cap (swapL e0 l i j) := by
  have gu := h.goodAt i hi hu
  have gv := h.goodAt j hj hv
  subst hu hv
  exact (h.set i _ gv).set j _ gu
theorem Only.swapT (w : World) (g i j : Nat) (u v : Ev) : Only w (swapT w g i j u v) (fun k => k = g) :=
  (Only.setCell w ⟨g, i, none⟩ _ (fun k => k = g) rfl).trans (Only.setCell _ ⟨g, j, none⟩ _ (fun k => k = g) rfl) (fun _ _ c => c)
theorem IxOwn.drewN {w : World} {B : IxE} {cap : Nat} {a : Option Addr} {l : List Ev} (h : IxOwn w B a cap l) (n : Nat) : IxOwn (w.drewN n) B a cap l := ⟨h.ex, drewN_below h.env n, h.good⟩
/-- what the closure makes beside -/
theorem IxOwn.still {w w' : World} {B : IxE} {cap : Nat} {a : Option Addr} {l : List Ev} (h : IxOwn w B a cap l) (o : Only w w' (fun _ => False)) : IxOwn w' B a cap l := by
  obtain ⟨g, e, h1, h2⟩ := h.ex
  have hg := lt_of_block h2
  exact ⟨⟨g, e, h1, (o.block g hg (fun c => c)).trans h2⟩, h.env.trans (o.below (Nat.le_of_lt (Nat.lt_of_le_of_lt h1 hg)) (fun _ c => c.elim)), h.good⟩
/-- two of them compared -/
theorem IxOwn.cmp {w : World} {B : IxE} {g cap : Nat} {l : List Ev} (h : IxOwn w B (some ⟨g, 0, none⟩) cap l) (i j : Nat) (hi : i < l.length) (hj : j < l.length) {x y : Ev} (hx : l.getD i e0 = x) (hy : l.getD j e0 = y) :
    ∀ W, Only w W (fun _ => False) → Calls Try.prog 25 #[.int .i64 x.s, .int .i64 y.s, .pointer (some ⟨B.p1, 0, none⟩), .pointer (some ⟨B.p2, 0, none⟩)] W
      fun e w' => e = .returned (.int .i64 (cmpZ x.t y.t)) ∧ Only W w' (fun _ => False) :=
  fun W o => B.cmp x y W (h.goodAt i hi hx) (h.goodAt j hj hy) (h.still o).env
end Go.Proofs.Ytdalffmmkhcdaaa
