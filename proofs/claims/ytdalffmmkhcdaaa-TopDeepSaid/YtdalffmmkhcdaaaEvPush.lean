/- WALKS: core.Heap[sim.planned]: Push. -/
import Derived.Test.YtdalffmmkhcdaaaEvHeap
import Derived.Deep.RegionLaw
set_option linter.unusedVariables false
set_option linter.unusedSimpArgs false
namespace Go.Proofs.Ytdalffmmkhcdaaa
open Go Go.RowKit SimPlain HeapPlain

theorem grown_block {W w2 : World} {o : Obj} {own : Option Nat} {b : Nat} (gr : (W.alloc o).drew.grownBy w2 own) (h : b < W.heap.size) (hn : own ≠ some b) : w2.heap[b]? = W.heap[b]? := by
  have h1 : b < (W.alloc o).drew.heap.size := by
    have e : (W.alloc o).drew.heap.size = W.heap.size + 1 := by simp
    omega
  have h2 := gr.block b h1 (fun e => hn e.symm)
  rw [h2]
  exact Below.heap_alloc W o b h
/-- the exchange of two events -/
def swapW (w : World) (g i j : Nat) (u v : Ev) : World :=
  (((((w.setCell ⟨g, i * 3, none⟩ (.int .i64 v.t)).setCell ⟨g, i * 3 + 1, none⟩ (.int .i64 v.id)).setCell ⟨g, i * 3 + 2, none⟩ (.int .i64 v.s)).setCell
    ⟨g, j * 3, none⟩ (.int .i64 u.t)).setCell ⟨g, j * 3 + 1, none⟩ (.int .i64 u.id)).setCell ⟨g, j * 3 + 2, none⟩ (.int .i64 u.s)
theorem HeapE.swap {w : World} {B H g cap : Nat} {l : List Ev} (h : HeapE w B H (some ⟨g, 0, none⟩) cap l) (hgH : g ≠ H) (i j : Nat) (hi : i < l.length) (hj : j < l.length) {u v : Ev} (hu : l.getD i e0 = u) (hv : l.getD j e0 = v) :
    HeapE (swapW w g i j u v) B H (some ⟨g, 0, none⟩) cap (swapL e0 l i j) := by
  subst hu hv
  have hr : EvOwn (swapW w g i j (l.getD i e0) (l.getD j e0)) B (some ⟨g, 0, none⟩) cap (swapL e0 l i j) := h.row.swap i j hi hj
  refine ⟨h.hb, ?_, hr, fun k e => ?_⟩
  · rw [swapL_length]
    unfold swapW
    have hne : ∀ (W : World) (o : Nat) (x : Value), (W.setCell ⟨g, o, none⟩ x).heap[H]? = W.heap[H]? := fun W o x => heap_setCell_other W ⟨g, o, none⟩ H x (fun c => hgH c.symm)
    rw [hne, hne, hne, hne, hne, hne]
    exact h.h
  · have : g = k := Option.some.inj e
    rw [← this]; exact hgH
theorem Only.swap (w : World) (g i j : Nat) (u v : Ev) : Only w (swapW w g i j u v) (fun k => k = g) := by
  have s : ∀ (W : World) (o : Nat) (x : Value), Only W (W.setCell ⟨g, o, none⟩ x) (fun k => k = g) := fun W o x => Only.setCell W ⟨g, o, none⟩ x (fun k => k = g) rfl
  exact (((((s _ _ _).trans (s _ _ _) (fun _ _ c => c)).trans (s _ _ _) (fun _ _ c => c)).trans (s _ _ _) (fun _ _ c => c)).trans (s _ _ _) (fun _ _ c => c)).trans (s _ _ _) (fun _ _ c => c)
set_option maxRecDepth 100000 in
set_option maxHeartbeats 4000000 in
theorem Push_any (l : List Ev) (x : Ev) (a : Option Addr) (cap H B : Nat) (w : World) (hH : HeapE w B H a cap l) (hl : l.length ≤ 100) (hB : B ≤ w.heap.size) (hp : Heap e0 Lt l) :
    Calls Try.prog 18 #[.pointer (some ⟨H, 0, none⟩), evV x] w fun e w' => e = .returned (.tuple #[]) ∧ ∃ a' cap' l', l'.Perm (x :: l) ∧ Heap e0 Lt l' ∧ HeapE w' B H a' cap' l' ∧ Only w w' (Touch H a cap l.length) ∧ (∀ k, (Value.slice a' l'.length cap').ownBlock = some k → (Value.slice a l.length cap).ownBlock = some k ∨ w.heap.size ≤ k) := by
  have c0 := hH.c0
  have c1 := hH.c1
  have f0 := hH.free 0
  have hlt := hH.lt
  have hown := hH.row
  have hap := hH.apart
  obtain ⟨i0, hi, hz0, hz1, hz2⟩ := info_parts evInfo
  obtain ⟨w0, hw0⟩ : ∃ w0 : World, w0 = w := ⟨_, rfl⟩
  have Hw0 := Lib.hid hw0
  clear hw0
  have Hown := Lib.hid hown
  have Hap := Lib.hid hap
  have HH := Lib.hid hH
  have Hp := Lib.hid hp
  obtain ⟨t, id, s⟩ := x
  unfold evV
  simp only
  clear hown hap hH hp
  go_enter Try.func18, Try.ntmps18
  go_upto_region 1 with fail
  obtain ⟨W1, hW1⟩ : ∃ W1, W1 = w.alloc (.cells #[.int .i64 t, .int .i64 id, .int .i64 s] 54) := ⟨_, rfl⟩
  have hb1 : W1.heap[w.heap.size]? = some (.cells #[.int .i64 t, .int .i64 id, .int .i64 s] 54 (0, 0)) := by rw [hW1]; exact heap_alloc_new w _
  have hO1 : Only w W1 (fun _ => False) := by rw [hW1]; exact Only.alloc w _ _
  have hs1 : W1.heap.size = w.heap.size + 1 := by rw [hW1]; simp
  have hE1 : HeapE W1 B H a cap l := HH.out.only (hO1.mono (fun _ _ c => c.elim))
  have d0 := hE1.c0
  have df := hE1.free 0
  have x0 : W1.cell? ⟨w.heap.size, 0, none⟩ = some (.int .i64 t) := by simp [World.cell?, hb1]
  have x1 : W1.cell? ⟨w.heap.size, 1, none⟩ = some (.int .i64 id) := by simp [World.cell?, hb1]
  have x2 : W1.cell? ⟨w.heap.size, 2, none⟩ = some (.int .i64 s) := by simp [World.cell?, hb1]
  have Hown1 := Lib.hid hE1.row
  rw [← hW1]
  have HW1 := Lib.hid hW1
  have HO1 := Lib.hid hO1
  have Hs1 := Lib.hid hs1
  generalize hbx : w.heap.size = bx at x0 x1 x2 ⊢
  have Hbx := Lib.hid hbx
  clear hW1 hO1 hs1 hE1 hb1 c0 c1 f0 hbx
  have hltW : H < W1.heap.size := by have := Hs1.out; omega
  have y0 : (W1.alloc (.cells #[.int .i64 t, .int .i64 id, .int .i64 s] 54)).cell? ⟨H, 0, none⟩ = some (.slice a l.length cap) := (World.cell?_of_block (Below.heap_alloc W1 _ H hltW)).trans d0
  go_cut [4] (fun s4 wx => s4 = undef ∧ ∃ g cap2 : Nat, HeapE wx B H (some ⟨g, 0, none⟩) cap2 (l ++ [⟨t, id, s⟩]) ∧ Only w wx (Touch H a cap l.length) ∧ g ≠ H ∧ ((Value.slice a l.length cap).ownBlock = some g ∨ w.heap.size ≤ g))
  case first =>
    go_region_law
      ((refine step_append_lies _ (by rfl) _ _ _ (by rfl) B 54 i0 _ 3 24 Try.underlying68 hi hz0 hz1 hz2 rfl (by omega) (.slice a l.length cap) l.length (flat3 l) (by rfl) (World.ownsRow.alloc (World.ownsRow.drew Hown1.out) _)
          ⟨W1.heap.size, 0, none⟩ 1 1 [.int .i64 t, .int .i64 id, .int .i64 s] (by rfl) (by rfl) (World.news_of_block (cs := #[.int .i64 t, .int .i64 id, .int .i64 s]) (t := 54) (fr := (0, 0)) (heap_alloc_new _ _)) (by simp [Value.oneCell'])
          (by omega) (by unfold maxLen; omega) (by omega) (by have := Hs1.out; simp; omega) (W1.heap.size + 1) (by simp) ?_; intro gg cap2 w2 hown2 hgr hat hlt2; have hpost := push_post (x := ⟨t, id, s⟩) HH.out (HO1.out.trans ((Only.alloc W1 (.cells #[.int .i64 t, .int .i64 id, .int .i64 s] 54) _).drewN 1) (fun _ _ c => c)) hown2 hgr (hat.imp_right (fun e => by have := Hs1.out; omega)); have q0 := hpost.2.2.1; have q1 := hpost.2.2.2.1; have hqb : w2.heap[bx]? = W1.heap[bx]? := grown_block hgr (by have := Hs1.out; have := Hbx.out; omega) (fun e => by have := Hown.out.lt bx e; have := Hbx.out; omega); have q2 : w2.cell? ⟨bx, 0, none⟩ = some (.int .i64 t) := (World.cell?_of_block hqb).trans x0; have q3 : w2.cell? ⟨bx, 1, none⟩ = some (.int .i64 id) := (World.cell?_of_block hqb).trans x1; have q4 : w2.cell? ⟨bx, 2, none⟩ = some (.int .i64 s) := (World.cell?_of_block hqb).trans x2; have Hpost := Lib.hid hpost; clear hpost hqb hgr hown2))
    all_goals
      go_wp2_with fail
      go_meet
      exact ⟨rfl, gg, cap2, Hpost.out.1, Hpost.out.2.1, Hpost.out.2.2.2.2, hat.imp_right (fun e => by have := Hs1.out; have := Hbx.out; omega)⟩
  case rest =>
    obtain ⟨rfl, g, cap2, hE2, hO2, hgH, hfresh⟩ := hcut
    have k0 := hE2.c0
    have hl1 : (l ++ [(⟨t, id, s⟩ : Ev)]).length = l.length + 1 := by simp
    rw [hl1] at k0
    have HE2 := Lib.hid hE2
    have HO2 := Lib.hid hO2
    have Hl1 := Lib.hid hl1
    clear hE2 hO2 hl1 d0 df x0 x1 x2 y0
    have hgT : ∀ k, k < w.heap.size → k = g → Touch H a cap l.length k := fun k hk e => by
      subst e
      rcases hfresh with h | h
      · exact .inr h
      · omega
    have HgT := Lib.hid hgT
    have Hfresh := Lib.hid hfresh
    have HU := Lib.hid (Up.start e0 (⟨t, id, s⟩ : Ev) Hp.out)
    clear hgT hfresh
    go_wp2
    go_loopw [4] (fun i wr => ∃ (k : Nat) (l1 : List Ev), i = .int .i64 k ∧ k < l.length + 1 ∧ l1.length = l.length + 1 ∧ l1.Perm (l ++ [(⟨t, id, s⟩ : Ev)]) ∧ Up e0 Lt l1 k ∧ HeapE wr B H (some ⟨g, 0, none⟩) cap2 l1 ∧ Only w wr (Touch H a cap l.length)) (fun i _ => (intOf i).toNat)
    case atStart => exact ⟨l.length, l ++ [⟨t, id, s⟩], by go_num, by omega, Hl1.out, List.Perm.refl _, HU.out, HE2.out, HO2.out⟩
    case round =>
      obtain ⟨k, l1, rfl, hk, hll, hp, hup, hHr, hOr⟩ := hrel
      rcases k with _ | m
      · have HHr := Lib.hid hHr
        have HOr := Lib.hid hOr
        have Hp := Lib.hid hp
        have Hll := Lib.hid hll
        have Hup := Lib.hid hup
        clear hHr hOr hp hll hup
        go_wp2
        go_end0
        refine ⟨rfl, some ⟨g, 0, none⟩, cap2, l1, Hp.out.trans (List.perm_append_singleton _ l), Hup.out.done _ (.inl rfl), HHr.out, HOr.out, fun k e => ?_⟩
        have : g = k := Option.some.inj e
        rw [← this]; exact Hfresh.out
      · have e0' := hHr.c0
        have e1 : wr.cell? ⟨H, 1, none⟩ = some (.func (.func 16) #[] #[]) := hHr.c1
        rw [hll] at e0'
        have hHl := hHr.lt
        obtain ⟨g', hg', _, hgl, _, hcell, hfro⟩ := hHr.row.open (by omega)
        obtain rfl : g = g' := by simpa using hg'
        have p1 : m / 2 < l1.length := by omega
        have p2 : m + 1 < l1.length := by omega
        have v1 := hcell (m + 1) p2
        have v2 := hcell (m / 2) p1
        have hm2 : (m : Int) / 2 = ((m / 2 : Nat) : Int) := by omega
        have hm3 : Int.tdiv (m : Int) 2 = ((m / 2 : Nat) : Int) := by rw [Int.tdiv_eq_ediv_of_nonneg (by omega)]; exact hm2
        have hpl : m / 2 < m + 1 := by omega
        have hpe : (m + 1 - 1) / 2 = m / 2 := by rw [Nat.add_sub_cancel]
        have HHr := Lib.hid hHr
        have HOr := Lib.hid hOr
        have Hp := Lib.hid hp
        have Hll := Lib.hid hll
        have Hup := Lib.hid hup
        have Hfro := Lib.hid hfro
        have Hpe := Lib.hid hpe
        clear hHr hOr hp hcell hfro hg' hup hpe
        generalize hpp : m / 2 = pp at v2 hm2 hm3 p1 hpl
        have Hpp := Lib.hid hpp
        generalize hu : l1.getD (m + 1) e0 = u at v1
        generalize hv : l1.getD pp e0 = v at v2
        have Hu := Lib.hid hu
        have Hv := Lib.hid hv
        obtain ⟨u0, u1, u2⟩ := v1
        obtain ⟨v0, v1, v2⟩ := v2
        clear hpp hu hv
        have i1 : (m : Int) + 1 < (l.length : Int) + 1 := by omega
        have i2 : (pp : Int) < (l.length : Int) + 1 := by omega
        have hne1 : ¬ g = H := hgH
        have hne2 : ¬ H = g := fun e => hgH e.symm
        clear hll
        have hC := sooner_any u v
        unfold evV at hC
        have HC := Lib.hid hC
        clear hC
        go_upto_region 5 with fail
        have z1 : (0 : Int) ≤ (m : Int) + 1 := by omega
        have z2 : ((m : Int) + 1).toNat = m + 1 := by omega
        have z3 : (0 : Int) ≤ (pp : Int) := by omega
        go_still_tail 18, (by kernel_rfl)
        change wpList _ _ _ _ _ wr.drew
        go_wp2_with fail
        refine (HC.out _).mono ?_
        rintro e w3 ⟨rfl, hw3⟩
        have hO3 : Only wr w3 (fun _ => False) := by
          rw [hw3]
          exact (((Only.refl wr _).drewN 1).trans (Only.alloc _ _ (fun _ => False)) (fun _ _ c => c)).trans (Only.alloc _ _ (fun _ => False)) (fun _ _ c => c)
        have hE3 := HHr.out.only (hO3.mono (fun _ _ c => c.elim))
        have hOr3 := HOr.out.trans hO3 (fun _ _ c => c.elim)
        have HE3 := Lib.hid hE3
        have HOr3 := Lib.hid hOr3
        have hbg := hO3.block g hgl (fun c => c)
        have a0 := hE3.c0
        rw [Hll.out] at a0
        have b0 := (World.cell?_of_block (a := ⟨g, (m + 1) * 3, none⟩) hbg).trans u0
        have b1 := (World.cell?_of_block (a := ⟨g, (m + 1) * 3 + 1, none⟩) hbg).trans u1
        have b2 := (World.cell?_of_block (a := ⟨g, (m + 1) * 3 + 2, none⟩) hbg).trans u2
        have d0 := (World.cell?_of_block (a := ⟨g, pp * 3, none⟩) hbg).trans v0
        have d1 := (World.cell?_of_block (a := ⟨g, pp * 3 + 1, none⟩) hbg).trans v1
        have d2 := (World.cell?_of_block (a := ⟨g, pp * 3 + 2, none⟩) hbg).trans v2
        obtain ⟨_, hg3, _, _, _, _, hfr3⟩ := hE3.row.open (by have := Hll.out; omega)
        obtain rfl := Addr.mk.inj (Option.some.inj hg3) |>.1
        have Hfr3 := Lib.hid hfr3
        clear hw3 hO3 hE3 hOr3 hbg hg3 hfr3 u0 u1 u2 v0 v1 v2 e0' e1 HC
        cases hb : ltB u v with
        | false =>
          have HB := Lib.hid hb
          clear hb
          go_wp2
          (try simp only [Exit.inBlock, Exit.then])
          refine bodyPost_ret (results_none rfl _ _ _) rfl ?_
          refine ⟨rfl, some ⟨g, 0, none⟩, cap2, l1, Hp.out.trans (List.perm_append_singleton _ l), Hup.out.done _ (.inr ?_), HE3.out, HOr3.out, fun k e => ?_⟩
          · rw [Hu.out, Hpe.out, Hpp.out, Hv.out]
            exact of_decide_eq_false HB.out
          · have : g = k := Option.some.inj e
            rw [← this]; exact Hfresh.out
        | true =>
          have HB := Lib.hid hb
          clear hb
          have frm0 := Hfr3.out ((m + 1) * 3)
          have frm1 := Hfr3.out ((m + 1) * 3 + 1)
          have frm2 := Hfr3.out ((m + 1) * 3 + 2)
          have frp0 := Hfr3.out (pp * 3)
          have frp1 := Hfr3.out (pp * 3 + 1)
          have frp2 := Hfr3.out (pp * 3 + 2)
          have ne00a : ¬ (m + 1) * 3 = pp * 3 := by omega
          have ne00b : ¬ pp * 3 = (m + 1) * 3 := by omega
          have ne01a : ¬ (m + 1) * 3 = pp * 3 + 1 := by omega
          have ne01b : ¬ pp * 3 + 1 = (m + 1) * 3 := by omega
          have ne02a : ¬ (m + 1) * 3 = pp * 3 + 2 := by omega
          have ne02b : ¬ pp * 3 + 2 = (m + 1) * 3 := by omega
          have ne10a : ¬ (m + 1) * 3 + 1 = pp * 3 := by omega
          have ne10b : ¬ pp * 3 = (m + 1) * 3 + 1 := by omega
          have ne11a : ¬ (m + 1) * 3 + 1 = pp * 3 + 1 := by omega
          have ne11b : ¬ pp * 3 + 1 = (m + 1) * 3 + 1 := by omega
          have ne12a : ¬ (m + 1) * 3 + 1 = pp * 3 + 2 := by omega
          have ne12b : ¬ pp * 3 + 2 = (m + 1) * 3 + 1 := by omega
          have ne20a : ¬ (m + 1) * 3 + 2 = pp * 3 := by omega
          have ne20b : ¬ pp * 3 = (m + 1) * 3 + 2 := by omega
          have ne21a : ¬ (m + 1) * 3 + 2 = pp * 3 + 1 := by omega
          have ne21b : ¬ pp * 3 + 1 = (m + 1) * 3 + 2 := by omega
          have ne22a : ¬ (m + 1) * 3 + 2 = pp * 3 + 2 := by omega
          have ne22b : ¬ pp * 3 + 2 = (m + 1) * 3 + 2 := by omega
          go_wp2
          go_region
          all_goals
            go_wp2
            go_roundw
            case rel =>
              refine ⟨pp, swapL e0 l1 (m + 1) pp, by go_num, by omega, by rw [swapL_length]; exact Hll.out, (perm_swap e0 l1 (m + 1) pp p2 p1).trans Hp.out, ?_, ?_, ?_⟩
              · have hs := Hup.out.step e0 order (Nat.succ_pos m) (by rw [Hu.out, Hpe.out, Hpp.out, Hv.out]; exact of_decide_eq_true HB.out)
                rw [Hpe.out, Hpp.out] at hs
                exact hs
              · exact (HE3.out.swap hgH (m + 1) pp p2 p1 Hu.out Hv.out).drewN 1
              · exact (HOr3.out.trans (Only.swap w3 g (m + 1) pp u v) HgT.out).drewN 1
            case measure => simp only [intOf]; omega
end Go.Proofs.Ytdalffmmkhcdaaa
