/- WALKS: core.Heap[int] as a bag of numbers: Len, Push, Pop. -/
import Derived.Test.YtomgcfjdmoefgaaDoorOwnRow
import Derived.Test.YtomgcfjdmoefgaaDoorHeapPlain
import Derived.BigRegion
import Derived.BigQuiet
namespace Go.Proofs.YtomgcfjdmoefgaaDoor
open Go Go.RowKit HeapPlain

theorem intInfo : (Tryd.prog.info? 3).map (fun i => (i.zero, i.size, i.bytes)) = some (some (.int .i64 0), 1, 8) := by kernel_rfl
theorem cell_one_newg (w : World) (v : Int) (t : TypeId) (g : Nat) (hg : g = w.heap.size) : ∀ j u, [Value.int .i64 v][j]? = some u → (w.alloc (.cells #[.int .i64 v] t)).cell? ((⟨g, 0, none⟩ : Addr).add j) = some u := by
  subst hg; exact cell_one_new w _ t

def lessF : Value := .func (.func 69) #[] #[]
theorem less_any (x y : Int) (w : World) : Calls Tryd.prog 69 #[.int .i64 x, .int .i64 y] w fun e w' => e = .returned (.bool (decide (x < y))) ∧ w = w' := by
  rcases Int.lt_or_le x y with h | h
  · go_enter Tryd.func69, Tryd.ntmps69
    go_wp2
    go_ret
    exact ⟨ret_bool (by rw [decide_eq_true h]), rfl⟩
  · go_enter Tryd.func69, Tryd.ntmps69
    go_wp2
    go_ret
    exact ⟨ret_bool (by rw [decide_eq_false (by omega)]), rfl⟩

/-- a heap of the call's own -/
structure HeapI (w : World) (B H : Nat) (a : Option Addr) (cap : Nat) (l : List Int) : Prop where
  hb : B ≤ H
  h : w.heap[H]? = some (.cells #[.slice a l.length cap, lessF] 88 (0, 0))
  row : Own w B 3 a cap l
  apart : ∀ k, (Value.slice a l.length cap).ownBlock = some k → k ≠ H
theorem HeapI.c0 {w : World} {B H : Nat} {a : Option Addr} {cap : Nat} {l : List Int} (h : HeapI w B H a cap l) : w.cell? ⟨H, 0, none⟩ = some (.slice a l.length cap) := by
  have := h.h
  simp [World.cell?, this]
theorem HeapI.c1 {w : World} {B H : Nat} {a : Option Addr} {cap : Nat} {l : List Int} (h : HeapI w B H a cap l) : w.cell? ⟨H, 1, none⟩ = some lessF := by
  have := h.h
  simp [World.cell?, this]
theorem HeapI.free {w : World} {B H : Nat} {a : Option Addr} {cap : Nat} {l : List Int} (h : HeapI w B H a cap l) (o : Nat) : w.frozen? ⟨H, o, none⟩ = false := by
  have := h.h
  simp [World.frozen?, this]
theorem HeapI.lt {w : World} {B H : Nat} {a : Option Addr} {cap : Nat} {l : List Int} (h : HeapI w B H a cap l) : H < w.heap.size := lt_of_block h.h

theorem HeapI.set {w : World} {B H g cap : Nat} {l : List Int} (h : HeapI w B H (some ⟨g, 0, none⟩) cap l) (hg : g ≠ H) (i : Nat) (v : Int) : HeapI (w.setCell ⟨g, i, none⟩ (.int .i64 v)) B H (some ⟨g, 0, none⟩) cap (l.set i v) := by
  refine ⟨h.hb, ?_, h.row.set i v, fun k e => h.apart k (by simpa using e)⟩
  rw [heap_setCell_other _ _ _ _ (fun c => hg c.symm), List.length_set]
  exact h.h
theorem HeapI.drewN {w : World} {B H cap : Nat} {a : Option Addr} {l : List Int} (h : HeapI w B H a cap l) (n : Nat) : HeapI (w.drewN n) B H a cap l := ⟨h.hb, h.h, h.row, h.apart⟩
theorem HeapI.drew {w : World} {B H cap : Nat} {a : Option Addr} {l : List Int} (h : HeapI w B H a cap l) : HeapI w.drew B H a cap l := ⟨h.hb, h.h, h.row, h.apart⟩
theorem less_yes {x y : Int} (h : x < y) (w : World) : Calls Tryd.prog 69 #[.int .i64 x, .int .i64 y] w fun e w' => e = .returned (.bool true) ∧ w' = w :=
  (less_any x y w).mono fun _ _ ⟨he, hw⟩ => ⟨by rw [he, decide_eq_true h], hw.symm⟩
theorem less_no {x y : Int} (h : y ≤ x) (w : World) : Calls Tryd.prog 69 #[.int .i64 x, .int .i64 y] w fun e w' => e = .returned (.bool false) ∧ w' = w :=
  (less_any x y w).mono fun _ _ ⟨he, hw⟩ => ⟨by rw [he, decide_eq_false (by omega)], hw.symm⟩

theorem Len_any (l : List Int) (a : Option Addr) (cap H B : Nat) (w : World) (hH : HeapI w B H a cap l) (hl : l.length ≤ 1000) :
    Calls Tryd.prog 71 #[.pointer (some ⟨H, 0, none⟩)] w fun e w' => e = .returned (.int .i64 l.length) ∧ w = w' := by
  have c0 := hH.c0
  go_enter Tryd.func71, Tryd.ntmps71
  go_wp2
  go_ret
  exact ⟨rfl, rfl⟩

/-- what Push and Pop leave of a heap -/
def Touch (H : Nat) (a : Option Addr) (cap n : Nat) (k : Nat) : Prop := k = H ∨ (Value.slice a n cap).ownBlock = some k

set_option maxHeartbeats 4000000 in
theorem Push_any (l : List Int) (x : Int) (a : Option Addr) (cap H B : Nat) (w : World) (hH : HeapI w B H a cap l) (hl : l.length ≤ 100) (hB : B ≤ w.heap.size) :
    Calls Tryd.prog 70 #[.pointer (some ⟨H, 0, none⟩), .int .i64 x] w fun e w' => e = .returned (.tuple #[]) ∧ ∃ a' cap' l', l'.Perm (x :: l) ∧ HeapI w' B H a' cap' l' ∧ Only w w' (Touch H a cap l.length) ∧ (∀ k, (Value.slice a' l'.length cap').ownBlock = some k → (Value.slice a l.length cap).ownBlock = some k ∨ w.heap.size ≤ k) := by
  have c0 := hH.c0
  have c1 := hH.c1
  have f0 := hH.free 0
  have hlt := hH.lt
  have hown := hH.row
  have hap := hH.apart
  have hHh := hH.h
  obtain ⟨i0, hi, hz0, hz1, hz2⟩ := info_parts intInfo
  have hpost : Hid (∀ v2 w2, World.ownsRow w2 B 3 1 v2 (l.length + 1) (l.map (Value.int .i64) ++ [.int .i64 x]) → (w.alloc (.cells #[.int .i64 x] 3)).grownBy w2 (Value.slice a l.length cap).ownBlock → (v2.ownBlock = (Value.slice a l.length cap).ownBlock ∨ v2.ownBlock = some (w.alloc (.cells #[.int .i64 x] 3)).heap.size) →
      ∃ g cap2, v2 = .slice (some ⟨g, 0, none⟩) (l.length + 1) cap2 ∧ Own w2 B 3 (some ⟨g, 0, none⟩) cap2 (l ++ [x]) ∧ g ≠ H ∧ w2.cell? ⟨H, 0, none⟩ = some (.slice a l.length cap) ∧ w2.cell? ⟨H, 1, none⟩ = some lessF ∧ w2.frozen? ⟨H, 0, none⟩ = false ∧ w2.heap[H]? = some (.cells #[.slice a l.length cap, lessF] 88 (0, 0)) ∧ Only w w2 (Touch H a cap l.length) ∧ ((Value.slice a l.length cap).ownBlock = some g ∨ w.heap.size ≤ g)) := Lib.hid (by
    intro v2 w2 own2 gr2 hat
    obtain ⟨a2, cap2, rfl, O⟩ := Own.of (xs := l ++ [x]) (by simpa using own2)
    have hlen : (l ++ [x]).length = l.length + 1 := by simp
    rcases O.2 with ⟨_, hz⟩ | ⟨g, cap', cur, h', _⟩
    · omega
    · simp only [Value.slice.injEq, true_and] at h'
      obtain ⟨rfl, rfl⟩ := h'
      have hat' : (Value.slice a l.length cap).ownBlock = some g ∨ w.heap.size + 1 = g := by
        rcases hat with e | e
        · exact .inl e.symm
        · right
          have : g = (w.alloc (.cells #[.int .i64 x] 3)).heap.size := Option.some.inj e
          simp at this; omega
      have hgH : g ≠ H := by
        rcases hat' with e | e
        · exact hap g e
        · omega
      have hH2 : w2.heap[H]? = some (.cells #[.slice a l.length cap, lessF] 88 (0, 0)) := by
        rw [gr2.block H (by simp; omega) (fun e => hap H e.symm rfl), Below.heap_alloc _ _ _ hlt]; exact hHh
      refine ⟨g, cap2, by rw [hlen], O, hgH, by simp [World.cell?, hH2], by simp [World.cell?, hH2], by simp [World.frozen?, hH2], hH2, ?_, ?_⟩
      · refine ⟨gr2.os, gr2.tape, gr2.output, Nat.le_trans (by simp) gr2.size, fun k hk hn => ?_⟩
        rw [gr2.block k (by simp; omega) (fun e => hn (.inr e.symm)), Below.heap_alloc _ _ _ hk]
      · rcases hat' with e | e
        · exact .inl e
        · exact .inr (by omega))
  have Hown := Lib.hid hown
  clear hown hap hHh
  go_enter Tryd.func70, Tryd.ntmps70
  go_wp2_with (at_builtin; refine wpList_append_own_at _ rfl _ _ 22 rfl B 3 i0 (.int .i64 0) 1 8 Tryd.underlying22 hi hz0 hz1 hz2 rfl (by decide) (.slice a l.length cap) l.length (l.map (Value.int .i64)) rfl (World.ownsRow.alloc Hown.out _) ⟨_, 0, none⟩ 1 1 [.int .i64 x] rfl rfl (cell_one_newg _ _ _ _ (by simp)) (by simp [Value.oneCell']) (by unfold maxLen; omega) (by omega) (by simp; omega) ?_; intro v2 w2 own2 gr2 _ hat; obtain ⟨g, cap2, rfl, hO, hgH, d0, d1, df, dh, hOnly, hfresh⟩ := hpost.out v2 w2 own2 gr2 hat)
  have hgT : ∀ k, k < w.heap.size → k = g → Touch H a cap l.length k := fun k hk e => by
    subst e
    rcases hfresh with h | h
    · exact .inr h
    · omega
  have hl1 : (l ++ [x]).length = l.length + 1 := by simp
  have hH3 : HeapI (w2.setCell ⟨H, 0, none⟩ (.slice (some ⟨g, 0, none⟩) (l.length + 1) cap2)) B H (some ⟨g, 0, none⟩) cap2 (l ++ [x]) := by
    refine ⟨hH.hb, ?_, hO.same (fun k e => heap_setCell_other _ _ _ _ (fun c => ?_)), fun k e => ?_⟩
    · rw [hl1]; exact heap_setCell_same _ _ _ _ _ _ dh
    · have : g = k := Option.some.inj e
      exact hgH (this.trans c)
    · have : g = k := Option.some.inj e
      omega
  have hOn3 : Only w (w2.setCell ⟨H, 0, none⟩ (.slice (some ⟨g, 0, none⟩) (l.length + 1) cap2)) (Touch H a cap l.length) := hOnly.trans (Only.setCell w2 ⟨H, 0, none⟩ _ (fun k => k = H) rfl) (fun j _ e => .inl e)
  have HH3 := Lib.hid hH3
  have HOn3 := Lib.hid hOn3
  have HgT := Lib.hid hgT
  have Hfresh := Lib.hid hfresh
  clear hH3 hOn3 hgT hfresh hO dh hOnly d0 d1 df c0 c1 f0 hH
  go_wp2
  go_loopw [4] (fun i wr => ∃ (k : Nat) (l1 : List Int), i = .int .i64 k ∧ k < l.length + 1 ∧ l1.length = l.length + 1 ∧ l1.Perm (l ++ [x]) ∧ HeapI wr B H (some ⟨g, 0, none⟩) cap2 l1 ∧ Only w wr (Touch H a cap l.length)) (fun i _ => (intOf i).toNat)
  case atStart => exact ⟨l.length, l ++ [x], by go_num, by omega, hl1, List.Perm.refl _, HH3.out, HOn3.out⟩
  case round =>
    obtain ⟨k, l1, rfl, hk, hll, hp, hHr, hOr⟩ := hrel
    rcases k with _ | m
    · have HHr := Lib.hid hHr
      have HOr := Lib.hid hOr
      have Hp := Lib.hid hp
      have Hll := Lib.hid hll
      clear hHr hOr hp hll
      go_wp2
      go_end0
      refine ⟨rfl, some ⟨g, 0, none⟩, cap2, l1, Hp.out.trans (List.perm_append_singleton x l), HHr.out, HOr.out, fun k e => ?_⟩
      have : g = k := Option.some.inj e
      rw [← this]; exact Hfresh.out
    · have e0 := hHr.c0
      have e1 : wr.cell? ⟨H, 1, none⟩ = some (.func (.func 69) #[] #[]) := hHr.c1
      rw [hll] at e0
      have hHl := hHr.lt
      obtain ⟨g', hg', _, hgl, hcell, hfro⟩ := hHr.row.open (by omega)
      obtain rfl : g = g' := by simpa using hg'
      have p1 : m / 2 < l1.length := by omega
      have p2 : m + 1 < l1.length := by omega
      have v1 := hcell (m + 1) p2
      have v2 := hcell (m / 2) p1
      have fr1 := hfro (m + 1)
      have fr2 := hfro (m / 2)
      have hm2 : (m : Int) / 2 = ((m / 2 : Nat) : Int) := by omega
      have hm3 : Int.tdiv (m : Int) 2 = ((m / 2 : Nat) : Int) := by rw [Int.tdiv_eq_ediv_of_nonneg (by omega)]; exact hm2
      have hpl : m / 2 < m + 1 := by omega
      have HHr := Lib.hid hHr
      have HOr := Lib.hid hOr
      have Hp := Lib.hid hp
      have Hll := Lib.hid hll
      clear hHr hOr hp hcell hfro hg'
      generalize hpp : m / 2 = pp at v2 fr2 hm2 hm3 p1 hpl
      have Hpp := Lib.hid hpp
      generalize hu : l1.getD (m + 1) 0 = u at v1
      generalize hv : l1.getD pp 0 = v at v2
      have Hu := Lib.hid hu
      have Hv := Lib.hid hv
      clear hpp hu hv
      have i1 : (m : Int) + 1 < (l.length : Int) + 1 := by omega
      have i2 : (pp : Int) < (l.length : Int) + 1 := by omega
      have hne1 : ¬ g = H := hgH
      have hne2 : ¬ H = g := fun e => hgH e.symm
      have hne3 : ¬ m + 1 = pp := by omega
      have hne4 : ¬ pp = m + 1 := by omega
      clear hll
      rcases Int.lt_or_le u v with hc | hc
      · have HC := Lib.hid (fun w0 => less_yes hc w0)
        go_wp2
        go_quiet (with_reducible exact Calls.quiet_of_same (HC.out _))
        go_wp2
        go_region
        all_goals
          go_wp2
          go_roundw
          case rel =>
            refine ⟨pp, swapL 0 l1 (m + 1) pp, by go_num, by omega, by rw [swapL_length]; exact Hll.out, (perm_swap 0 l1 (m + 1) pp p2 p1).trans Hp.out, ?_, ?_⟩
            · have h := ((HHr.out.drewN (nq + 1)).set hgH (m + 1) v).set hgH pp u
              unfold swapL
              rw [Hu.out, Hv.out]
              exact h
            · exact (((HOr.out.drewN (nq + 1)).trans (Only.setCell _ ⟨g, m + 1, none⟩ _ (fun k => k = g) rfl) HgT.out).trans (Only.setCell _ ⟨g, pp, none⟩ _ (fun k => k = g) rfl) HgT.out)
          case measure => simp only [intOf]; omega
      · have HC := Lib.hid (fun w0 => less_no hc w0)
        go_wp2
        go_quiet (with_reducible exact Calls.quiet_of_same (HC.out _))
        go_wp2
        (try simp only [Exit.inBlock, Exit.then])
        refine bodyPost_ret (results_none rfl _ _ _) rfl ?_
        refine ⟨rfl, some ⟨g, 0, none⟩, cap2, l1, Hp.out.trans (List.perm_append_singleton x l), HHr.out.drewN _, HOr.out.drewN _, fun k e => ?_⟩
        have : g = k := Option.some.inj e
        rw [← this]; exact Hfresh.out
end Go.Proofs.YtomgcfjdmoefgaaDoor
