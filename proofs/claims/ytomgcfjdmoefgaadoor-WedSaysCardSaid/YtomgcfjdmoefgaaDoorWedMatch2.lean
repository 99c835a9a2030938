/- WALK: wed.Match (begun): what its loops keep. -/
import Derived.Test.YtomgcfjdmoefgaaDoorWedMatch
import Derived.Test.YtomgcfjdmoefgaaDoorWedLists
namespace Go.Proofs.YtomgcfjdmoefgaaDoor
open Go Go.RowKit WedPlain

theorem HeapI.other {w : World} {B H cap : Nat} {a : Option Addr} {l : List Int} (h : HeapI w B H a cap l) (p : Addr) (v : Value) (h1 : p.block < B) : HeapI (w.setCell p v) B H a cap l := by
  refine ⟨h.hb, ?_, h.row.same (fun k e => heap_setCell_other _ _ _ _ (fun c => ?_)), h.apart⟩
  · rw [heap_setCell_other _ _ _ _ (fun c => by have := h.hb; omega)]; exact h.h
  · have := (h.row.lt k e).1; omega
/-- what Match's loops keep of the world -/
structure MatchW (n : Nat) (W1 : World) (ga : Nat) (asked : Nat → Nat) (has : Nat → Int) (ah : Option Addr) (ch : Nat) (l : List Int) (wr : World) : Prop where
  gaw : W1.heap.size ≤ ga
  asked : wr.rowIs ga 3 n (fun i => .int .i64 (asked i))
  has : wr.rowIs (ga + 1) 3 n (fun k => .int .i64 (has k))
  heap : HeapI wr (ga + 2) (ga + 2) ah ch l
  bel : Below W1.heap.size W1 wr
theorem MatchW.size {n : Nat} {W1 : World} {ga : Nat} {asked : Nat → Nat} {has : Nat → Int} {ah : Option Addr} {ch : Nat} {l : List Int} {wr : World} (h : MatchW n W1 ga asked has ah ch l wr) : ga + 2 < wr.heap.size := h.heap.lt
theorem MatchW.only {n : Nat} {W1 : World} {ga : Nat} {asked : Nat → Nat} {has : Nat → Int} {ah a' : Option Addr} {ch c' : Nat} {l l' : List Int} {wr w' : World} (h : MatchW n W1 ga asked has ah ch l wr) (o : Only wr w' (Touch (ga + 2) ah ch l.length)) (hH : HeapI w' (ga + 2) (ga + 2) a' c' l') :
    MatchW n W1 ga asked has a' c' l' w' := by
  have ht : ∀ k, Touch (ga + 2) ah ch l.length k → ga + 2 ≤ k := fun k hk => by
    rcases hk with e | e
    · omega
    · exact (h.heap.row.lt k e).1
  have hs := h.size
  exact ⟨h.gaw, h.asked.of_block (o.block ga (by omega) (fun c => by have := ht _ c; omega)), h.has.of_block (o.block (ga + 1) (by omega) (fun c => by have := ht _ c; omega)), hH,
    h.bel.trans (o.below h.bel.size (fun k c => by have := ht k c; have := h.gaw; omega))⟩
theorem MatchW.setHas {n : Nat} {W1 : World} {ga : Nat} {asked : Nat → Nat} {has : Nat → Int} {ah : Option Addr} {ch : Nat} {l : List Int} {wr : World} (h : MatchW n W1 ga asked has ah ch l wr) (k : Nat) (v : Int) :
    MatchW n W1 ga asked (upI has k v) ah ch l (wr.setCell ⟨ga + 1, k, none⟩ (.int .i64 v)) :=
  ⟨h.gaw, h.asked.setOther (by show ga ≠ ga + 1; omega) _, (h.has.set k (.int .i64 v)).congr (fun q _ => by unfold upI; split <;> rfl), h.heap.other _ _ (by show ga + 1 < ga + 2; omega), h.bel.setCell (p := ⟨ga + 1, k, none⟩) (by have := h.gaw; show W1.heap.size ≤ ga + 1; omega) _⟩
theorem MatchW.setAsked {n : Nat} {W1 : World} {ga : Nat} {asked : Nat → Nat} {has : Nat → Int} {ah : Option Addr} {ch : Nat} {l : List Int} {wr : World} (h : MatchW n W1 ga asked has ah ch l wr) (k : Nat) (v : Nat) :
    MatchW n W1 ga (up asked k v) has ah ch l (wr.setCell ⟨ga, k, none⟩ (.int .i64 v)) :=
  ⟨h.gaw, (h.asked.set k (.int .i64 v)).congr (fun q _ => by unfold up; split <;> rfl), h.has.setOther (by show ga + 1 ≠ ga; omega) _, h.heap.other _ _ (by show ga < ga + 2; omega), h.bel.setCell (p := ⟨ga, k, none⟩) h.gaw _⟩
theorem MatchW.drewN {n : Nat} {W1 : World} {ga : Nat} {asked : Nat → Nat} {has : Nat → Int} {ah : Option Addr} {ch : Nat} {l : List Int} {wr : World} (h : MatchW n W1 ga asked has ah ch l wr) (q : Nat) : MatchW n W1 ga asked has ah ch l (wr.drewN q) :=
  ⟨h.gaw, h.asked, h.has, h.heap.drewN q, drewN_below h.bel q⟩
def tot (f : Nat → Nat) : Nat → Nat
  | 0 => 0
  | n + 1 => tot f n + f n
theorem tot_congr (f g : Nat → Nat) (n : Nat) (h : ∀ i, i < n → f i = g i) : tot f n = tot g n := by
  induction n with
  | zero => rfl
  | succ n ih => unfold tot; rw [ih (fun i hi => h i (by omega)), h n (by omega)]
theorem tot_up (f : Nat → Nat) (n i : Nat) (h : i < n) : tot (up f i (f i + 1)) n = tot f n + 1 := by
  induction n with
  | zero => omega
  | succ n ih =>
    unfold tot
    by_cases e : i = n
    · subst e
      rw [up_same, tot_congr (up f i (f i + 1)) f i (fun j hj => up_other _ _ _ _ (by omega))]; omega
    · rw [ih (by omega), up_other _ _ _ _ (fun c => e c.symm)]; omega
theorem tot_le (f : Nat → Nat) (n m : Nat) (h : ∀ i, i < n → f i ≤ m) : tot f n ≤ n * m := by
  induction n with
  | zero => unfold tot; omega
  | succ n ih =>
    have := ih (fun i hi => h i (by omega))
    have := h n (by omega)
    unfold tot
    rw [Nat.succ_mul]; omega
theorem tot_zero (n : Nat) : tot (fun _ => 0) n = 0 := by
  induction n with
  | zero => rfl
  | succ n ih => unfold tot; rw [ih]
theorem setCells_two (w : World) (b : Nat) (x y : Value) : w.setCells b 0 [x, y] = (w.setCell ⟨b, 0, none⟩ x).setCell ⟨b, 1, none⟩ y := rfl
theorem MatchW.begin (n : Nat) (w2 w3 : World) (hw3 : w3 = (((w2.alloc (.cells (madeCells #[.int .i64 0] n) 3)).alloc (.cells (madeCells #[.int .i64 0] n) 3)).alloc (.cells #[.slice none 0 0, .nilFunc] 88)).alloc (.cells #[.slice none 0 0, .func (.func 69) #[] #[]] 88)) :
    MatchW n w2 w2.heap.size (fun _ => 0) (fun _ => 0) none 0 [] ((w3.setCell ⟨w2.heap.size + 1 + 1, 0, none⟩ (.slice none 0 0)).setCell ⟨w2.heap.size + 1 + 1, 1, none⟩ (.func (.func 69) #[] #[])) := by
  have s1 : (w2.alloc (.cells (madeCells #[.int .i64 0] n) 3)).heap.size = w2.heap.size + 1 := by simp
  have s2 : ((w2.alloc (.cells (madeCells #[.int .i64 0] n) 3)).alloc (.cells (madeCells #[.int .i64 0] n) 3)).heap.size = w2.heap.size + 1 + 1 := by simp
  have r1 := ((World.rowIs_made w2 (.int .i64 0) n 3).alloc (.cells (madeCells #[.int .i64 0] n) 3)).alloc (.cells #[.slice none 0 0, .nilFunc] 88)
  have r2 := (World.rowIs_made (w2.alloc (.cells (madeCells #[.int .i64 0] n) 3)) (.int .i64 0) n 3).alloc (.cells #[.slice none 0 0, .nilFunc] 88)
  rw [s1] at r2
  have r3 := heap_alloc_new ((w2.alloc (.cells (madeCells #[.int .i64 0] n) 3)).alloc (.cells (madeCells #[.int .i64 0] n) 3)) (.cells #[.slice none 0 0, .nilFunc] 88)
  rw [s2] at r3
  have hb : Below w2.heap.size w2 w3 := by
    rw [hw3]
    exact ((((Below.refl _ _).alloc (Nat.le_refl _) _).alloc (by simp) _).alloc (by simp; omega) _).alloc (by simp; omega) _
  have q1 := r1.alloc (.cells #[.slice none 0 0, .func (.func 69) #[] #[]] 88)
  have q2 := r2.alloc (.cells #[.slice none 0 0, .func (.func 69) #[] #[]] 88)
  have q3 : w3.heap[w2.heap.size + 1 + 1]? = some (.cells #[.slice none 0 0, .nilFunc] 88 (0, 0)) := by
    rw [hw3, Below.heap_alloc _ _ _ (by simp)]; exact r3
  rw [← hw3] at q1 q2
  have h1 : ((w3.setCell ⟨w2.heap.size + 1 + 1, 0, none⟩ (.slice none 0 0)).setCell ⟨w2.heap.size + 1 + 1, 1, none⟩ (.func (.func 69) #[] #[])).heap[w2.heap.size + 1 + 1]? = some (.cells #[.slice none 0 0, lessF] 88 (0, 0)) := by
    have a1 := heap_setCell_same w3 (w2.heap.size + 1 + 1) 0 _ _ (.slice none 0 0) q3
    have a2 := heap_setCell_same (w3.setCell ⟨w2.heap.size + 1 + 1, 0, none⟩ (.slice none 0 0)) (w2.heap.size + 1 + 1) 1 _ _ lessF a1
    exact a2
  refine ⟨Nat.le_refl _, ?_, ?_, ⟨by omega, h1, Own.nil _ _ _, fun k e => by simp [Value.ownBlock] at e⟩, ?_⟩
  · exact (((q1.setOther (by show w2.heap.size ≠ _; simp only; omega) _).setOther (by simp only; omega) _)).congr (fun i _ => rfl)
  · exact (((q2.setOther (by simp only; omega) _).setOther (by simp only; omega) _)).congr (fun i _ => rfl)
  · exact (hb.setCell (p := ⟨w2.heap.size + 1 + 1, 0, none⟩) (by simp only; omega) _).setCell (p := ⟨w2.heap.size + 1 + 1, 1, none⟩) (by simp only; omega) _
end Go.Proofs.YtomgcfjdmoefgaaDoor
