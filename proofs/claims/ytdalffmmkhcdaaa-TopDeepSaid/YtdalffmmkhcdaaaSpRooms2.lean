/- WALK: slots.Rooms of spans that may be. -/
import Derived.Test.YtdalffmmkhcdaaaSpRooms
set_option linter.unusedVariables false
set_option linter.unusedSimpArgs false
namespace Go.Proofs.Ytdalffmmkhcdaaa
open Go Go.RowKit SimPlain HeapPlain SymPlain SpPlain

theorem intInfo : (Try.prog.info? 3).map (fun i => (i.zero, i.size, i.bytes)) = some (some (.int .i64 0), 1, 8) := by kernel_rfl
theorem cell_one_newg (w : World) (v : Int) (t : TypeId) (g : Nat) (hg : g = w.heap.size) : ∀ j u, [Value.int .i64 v][j]? = some u → (w.alloc (.cells #[.int .i64 v] t)).cell? ((⟨g, 0, none⟩ : Addr).add j) = some u := by
  subst hg; exact cell_one_new w _ t

/-- what Rooms' loop keeps -/
structure RoomsW (l W : List Ev) (N g gs B : Nat) (w : World) (k : Nat) (free out : List Int) (fa : Option Addr) (fc : Nat) (wr : World) : Prop where
  len : out.length = N
  gr : Greedy (mostTo l 1001) (W.take k) free out
  own : Own wr B 3 fa fc free
  row : Row wr g 3 out
  by_ : wr.heap[gs]? = some (.cells (ixVals W) 3 (0, 0))
  bel : Below w.heap.size w wr
  size : B ≤ wr.heap.size
theorem RoomsW.old {l W : List Ev} {N g gs B : Nat} {w : World} {k : Nat} {free out : List Int} {gf fc : Nat} {wo : World} {x : Ev} {i r : Nat} (h : RoomsW l W N g gs B w k free out (some ⟨gf, 0, none⟩) fc wo) (hg : g < B) (hgs : gs < B) (hne : gs ≠ g) (hw : w.heap.size ≤ g) (hf : B ≤ gf)
    (nx : NextS l W k x i) (hi : i < N) (hr : r < free.length) (hle : free.getD r 0 ≤ x.t) :
    RoomsW l W N g gs B w (k + 1) (free.set r x.id) (out.set i (r : Int)) (some ⟨gf, 0, none⟩) fc ((wo.setCell ⟨gf, r, none⟩ (.int .i64 x.id)).setCell ⟨g, i, none⟩ (.int .i64 r)) := by
  refine ⟨by rw [List.length_set]; exact h.len, ?_, (h.own.set r x.id).below (p := ⟨g, i, none⟩) hg _, (h.row.other ⟨gf, r, none⟩ (by show g ≠ gf; omega) _).set i _, ?_, (h.bel.setCell (p := ⟨gf, r, none⟩) (by show _ ≤ gf; omega) _).setCell (p := ⟨g, i, none⟩) hw _, ?_⟩
  · rw [nx.take]
    exact h.gr.old nx.le hr hle (by rw [nx.eq]; rfl) (by rw [h.len]; exact hi) nx.new
  · rw [heap_setCell_other _ _ _ _ (by exact hne), heap_setCell_other _ _ _ _ (by show gs ≠ gf; omega)]; exact h.by_
  · simp only [World.setCell, Array.size_modify]; exact h.size
theorem RoomsW.fresh {l W : List Ev} {N g gs B : Nat} {w : World} {k : Nat} {free out : List Int} {fa : Option Addr} {fc : Nat} {wo : World} {x : Ev} {i : Nat} (h : RoomsW l W N g gs B w k free out fa fc wo) (hg : g < B) (hgs : gs < B) (hne : gs ≠ g) (hw : w.heap.size ≤ g)
    (nx : NextS l W k x i) (hi : i < N) (hall : ∀ r, r < free.length → x.t < free.getD r 0) {v' : Value} {w2 : World} (own2 : w2.ownsRow B 3 1 v' (free.length + 1) (free.map (Value.int .i64) ++ [.int .i64 x.id]))
    (gr2 : ((wo.setCell ⟨g, i, none⟩ (.int .i64 free.length)).alloc (.cells #[.int .i64 x.id] 3)).grownBy w2 (Value.slice fa free.length fc).ownBlock) :
    ∃ a2 c2, v' = .slice a2 (free.length + 1) c2 ∧ RoomsW l W N g gs B w (k + 1) (free ++ [x.id]) (out.set i (free.length : Int)) a2 c2 w2 := by
  obtain ⟨a2, c2, rfl, O⟩ := Own.of (xs := free ++ [x.id]) (by simpa using own2)
  have hlen : (free ++ [x.id]).length = free.length + 1 := by simp
  have hsz : (wo.setCell ⟨g, i, none⟩ (.int .i64 free.length)).heap.size = wo.heap.size := by simp [World.setCell]
  have hsz2 : ((wo.setCell ⟨g, i, none⟩ (.int .i64 free.length)).alloc (.cells #[.int .i64 x.id] 3)).heap.size = wo.heap.size + 1 := by simp [hsz]
  have hB := h.size
  have hblk : ∀ q, q < B → w2.heap[q]? = (wo.setCell ⟨g, i, none⟩ (.int .i64 free.length)).heap[q]? := fun q hq => by
    rw [gr2.block q (by omega) (fun e => by have := (h.own.lt q e.symm).1; omega), Below.heap_alloc _ _ _ (by omega)]
  refine ⟨a2, c2, by rw [hlen], by rw [List.length_set]; exact h.len, ?_, O, ?_, ?_, ?_, ?_⟩
  · rw [nx.take]
    exact h.gr.new nx.le (by rw [nx.eq]; exact nx.ok.2.2) hall (by rw [nx.eq]; rfl) (by rw [h.len]; exact hi) nx.deep
  · show w2.heap[g]? = _
    rw [hblk g hg]
    exact h.row.set i _
  · rw [hblk gs hgs, heap_setCell_other _ _ _ _ (by exact hne)]; exact h.by_
  · have h1 : Below w.heap.size (wo.setCell ⟨g, i, none⟩ (.int .i64 free.length)) w2 := ((Below.refl _ _).alloc (by have := h.bel.size; omega) _).grown gr2 (by have := h.bel.size; omega) (fun q e => by have := (h.own.lt q e).1; omega)
    exact (h.bel.setCell (p := ⟨g, i, none⟩) hw _).trans h1
  · have := gr2.size; omega
/-- what Rooms tells -/
def RoomsRes (l : List Ev) (N : Nat) (w : World) (e : Ending) (w' : World) : Prop :=
  ∃ g out, e = .returned (.tuple #[.slice (some ⟨g, 0, none⟩) N N, .nilIface]) ∧ out.length = N ∧ Row w' g 3 out ∧ Below w.heap.size w w' ∧ w.heap.size ≤ g ∧
    ((N = 0 ∧ mostTo l 1001 = 0) ∨ ((∀ j, 0 ≤ out.getD j 0 ∧ out.getD j 0 < mostTo l 1001) ∧ ∃ j, j < N ∧ out.getD j 0 = mostTo l 1001 - 1))
set_option maxRecDepth 100000 in
set_option maxHeartbeats 4000000 in
theorem Rooms_ok (l : List Ev) (a : Option Addr) (cap : Nat) (w : World) (hx : EvA w a l) (hf : FineS l) (N : Nat) (hN : N = l.length) :
    Calls Try.prog 6 #[.slice a N cap] w (RoomsRes l N w) := by
  have hlen := hf.len
  have HC := Lib.hid (CheckS_any l a cap w hx (by omega))
  have HF := Lib.hid hf
  have HX := Lib.hid hx
  have HN := Lib.hid hN
  rw [← hN] at hlen HC
  have hmk := fun w => run_make_row' (P := Try.prog) 28 3 (.int .i64 0) 8 Try.underlying28 (by kernel_rfl) rfl .i64 .i64 N (by omega) (by omega) w
  clear hx hf hN
  go_enter Try.func6, Try.ntmps6
  go_wp2_with fail
  go_step3
  go_wp2_with fail
  refine HC.out.mono ?_
  rintro e w1 ⟨⟨ev, rfl, hc⟩, hb⟩
  rcases hc with ⟨rfl, _⟩ | ⟨_, hf⟩
  rotate_left
  · exact absurd HF.out hf
  have HB := Lib.hid hb
  clear hb
  go_upto_region 6 with fail
  obtain ⟨w2, hw2⟩ : ∃ w2, w2 = w1.alloc (.cells (madeCells #[.int .i64 0] N) 3) := ⟨_, rfl⟩
  have hr2 : Row w2 w1.heap.size 3 (List.replicate N 0) := by rw [hw2]; exact Row.made w1 3 N
  have hb2 : Below w.heap.size w w2 := by rw [hw2]; exact HB.out.alloc HB.out.size _
  have hg0 := HB.out.size
  rw [← hw2]
  clear hw2 hmk
  generalize w1.heap.size = g at hr2 hg0 ⊢
  have hgl := hr2.lt
  have HBy := Lib.hid (by_any l a cap w2 (HX.out.below hb2) (by rw [← HN.out]; exact hlen) N HN.out)
  unfold fvW at HBy
  have HR2 := Lib.hid hr2
  have HB2 := Lib.hid hb2
  clear hr2 hb2
  go_wp2_with fail
  go_step3
  go_wp2_with fail
  refine HBy.out.mono ?_
  rintro e w3 ⟨gs, W, rfl, hgs, hp, hs, hW, hb3⟩
  have HP := Lib.hid hp
  have HS := Lib.hid hs
  have hWl : W.length = N := by rw [hp.length_eq, tag_length]; exact HN.out.symm
  have HRel : Hid (RoomsW l W N g gs w3.heap.size w 0 [] (List.replicate N 0) none 0 w3) := Lib.hid
    ⟨by simp, Greedy.start _ (mostTo_nonneg _ _) N, Own.nil _ _ _, HR2.out.below hb3 (by omega), hW, HB2.out.trans (hb3.mono HB2.out.size), Nat.le_refl _⟩
  have hgl3 := hb3.size
  have hgsl := lt_of_block hW
  obtain ⟨B, hB⟩ : ∃ B, B = w3.heap.size := ⟨_, rfl⟩
  rw [← hB] at HRel
  have hgB : g < B := by omega
  have hgsB : gs < B := by omega
  have hwB : w.heap.size ≤ B := by omega
  have hgsg : g < gs := by omega
  have HWl := Lib.hid hWl
  clear hp hs hW hb3 hgl3 hgsl hgl hWl hB
  generalize List.replicate N (0 : Int) = out0 at HRel
  go_wp2
  go_loopw [6, 22] (fun fv iv wr => ∃ (k : Nat) (free out : List Int) (fa : Option Addr) (fc : Nat), fv = .slice fa free.length fc ∧ iv = .int .i64 k ∧ k ≤ N ∧ RoomsW l W N g gs B w k free out fa fc wr) (fun _ iv _ => N - (intOf iv).toNat)
  case atStart => exact ⟨0, [], out0, none, 0, rfl, rfl, Nat.zero_le _, HRel.out⟩
  case round =>
    rename World => wo
    obtain ⟨k, free, out, fa, fc, rfl, rfl, hk, R⟩ := hrel
    have HR := Lib.hid R
    clear R
    rcases Nat.lt_or_ge k N with hlt | hge
    · obtain ⟨i, hnx⟩ := next_of HF.out HP.out HS.out (k := k) (by rw [HWl.out]; exact hlt)
      have hkW : k < W.length := by rw [HWl.out]; exact hlt
      generalize hxk : W.getD k e0 = x at hnx
      have HNx := Lib.hid hnx
      have hiN : i < N := by rw [HN.out]; exact hnx.lt
      have hxs : x.s = (i : Int) := by rw [hnx.eq]; rfl
      have hxt : x.t = (l.getD i e0).t := by rw [hnx.eq]; rfl
      have hxi : x.id = (l.getD i e0).id := by rw [hnx.eq]; rfl
      have hgsl := HR.out.size
      have cw : wo.cell? ⟨gs, k, none⟩ = some (.int .i64 (i : Int)) := by
        rw [getD_lt e0 W k hkW] at hxk
        have h1 := HR.out.by_
        simp [World.cell?, h1, ixVals, hkW, hxk, hxs]
      obtain ⟨b, off, rfl, hbl, hcs⟩ := HX.out.open (by rw [← HN.out]; omega)
      obtain ⟨c0, c1⟩ := hcs i hnx.lt
      replace c0 := (HR.out.bel.cell (p := ⟨b, off + i * 2, none⟩) hbl).trans c0
      replace c1 := (HR.out.bel.cell (p := ⟨b, off + i * 2 + 1, none⟩) hbl).trans c1
      rw [← hxt] at c0
      rw [← hxi] at c1
      have hkI : (k : Int) < (N : Int) := by omega
      have hiI : (i : Int) < (N : Int) := by omega
      have HXs := Lib.hid hxs
      obtain ⟨xt, xi, xs⟩ := x
      simp only at c0 c1
      clear hcs hxs hxt hxi hnx hxk
      have hfl : free.length ≤ 24 := by
        have h1 := HR.out.gr.deep
        have h2 := mostTo_le l 1001
        have h3 := HN.out
        omega
      go_wp2
      go_loopw [28] (fun rv wx => ∃ r : Nat, rv = .int .i64 r ∧ r ≤ free.length ∧ (∀ q, q < r → xt < free.getD q 0) ∧ wo = wx) (fun rv _ => free.length - (intOf rv).toNat)
      case atStart => exact ⟨0, rfl, Nat.zero_le _, fun q hq => by omega, rfl⟩
      case round =>
        obtain ⟨r, rfl, hr, hall, rfl⟩ := hrel
        have HAll := Lib.hid hall
        clear hall
        have ci := HR.out.row.cell i (by rw [HR.out.len]; exact hiN)
        have fi := HR.out.row.free i
        rcases Nat.lt_or_ge r free.length with hrl | hrl
        · obtain ⟨gf, rfl, hBf, hgfl, hcf, hff⟩ := HR.out.own.open (by omega)
          have cr := hcf r hrl
          have fr := hff r
          have ngf : ¬ g = gf := by omega
          have nfg : ¬ gf = g := by omega
          have hrI : (r : Int) < (free.length : Int) := by omega
          clear hcf hff
          by_cases hle : free.getD r 0 ≤ xt
          · have HRo : Hid (RoomsW l W N g gs B w (k + 1) (free.set r xi) (out.set i (r : Int)) (some ⟨gf, 0, none⟩) fc ((wo.setCell ⟨gf, r, none⟩ (.int .i64 xi)).setCell ⟨g, i, none⟩ (.int .i64 r))) := Lib.hid (HR.out.old hgB hgsB (by omega) hg0 hBf HNx.out hiN hrl hle)
            have HLs : Hid ((free.set r xi).length = free.length) := Lib.hid (by rw [List.length_set])
            generalize free.set r xi = free2 at HRo HLs
            generalize out.set i (r : Int) = out2 at HRo
            generalize free.getD r 0 = v at *
            generalize out.getD i 0 = vo at *
            go_wp2
            go_roundw
            case rel => exact ⟨k + 1, free2, out2, _, _, by rw [HLs.out], by go_num, by omega, HRo.out⟩
            case measure => simp only [intOf]; omega
          · have HA2 : Hid (∀ q, q < r + 1 → xt < free.getD q 0) := Lib.hid fun q hq => by
              rcases Nat.lt_or_ge q r with h | h
              · exact HAll.out q h
              · obtain rfl : q = r := by omega
                omega
            have hlt2 : xt < free.getD r 0 := by omega
            generalize free.getD r 0 = v at *
            clear hle
            go_wp2
            go_roundw
            case rel => exact ⟨r + 1, by go_num, by omega, HA2.out, by first | rfl | trivial⟩
            case measure => simp only [intOf]; omega
        · obtain rfl : free.length = r := by omega
          have hd : decide (free.length < free.length) = false := by simp
          obtain ⟨i0, hi0, hz0, hz1, hz2⟩ := info_parts intInfo
          have hpost := fun v' w2 own2 gr2 => HR.out.fresh (v' := v') (w2 := w2) hgB hgsB (by omega) hg0 HNx.out hiN HAll.out own2 gr2
          have HPost := Lib.hid hpost
          have hown : Hid (Own (wo.setCell ⟨g, i, none⟩ (.int .i64 free.length)) B 3 fa fc free) := Lib.hid (HR.out.own.below (p := ⟨g, i, none⟩) hgB _)
          have hBs : B ≤ (wo.setCell ⟨g, i, none⟩ (.int .i64 free.length)).heap.size := by simp only [World.setCell, Array.size_modify]; exact HR.out.size
          go_wp2_with (at_builtin; refine wpList_append_own_at _ rfl _ _ 28 rfl B 3 i0 (.int .i64 0) 1 8 Try.underlying28 hi0 hz0 hz1 hz2 rfl (by decide) (.slice fa free.length fc) free.length (free.map (Value.int .i64)) rfl (World.ownsRow.alloc hown.out _) ⟨_, 0, none⟩ 1 1 [.int .i64 xi] rfl rfl (cell_one_newg _ _ _ _ (by simp)) (by simp [Value.oneCell']) (by unfold maxLen; omega) (by omega) (by simp; exact Nat.le_succ_of_le HR.out.size) ?_; intro v2 w2 own2 gr2 _ _; obtain ⟨a2, c2, rfl, hW2⟩ := HPost.out v2 w2 own2 gr2; have HW2 := Lib.hid hW2; clear own2 gr2 hW2)
          have HLf : Hid ((free ++ [xi]).length = free.length + 1) := Lib.hid (by simp)
          generalize free ++ [xi] = free2 at HW2 HLf
          generalize out.set i (free.length : Int) = out2 at HW2
          go_roundw
          case rel => exact ⟨k + 1, free2, out2, a2, c2, by rw [HLf.out], by go_num, by omega, HW2.out⟩
          case measure => simp only [intOf]; omega
    · obtain rfl : N = k := by omega
      have h3 : decide (N < N) = false := by simp
      go_wp2
      rw [Exit.noGoto_ret]
      go_ret2
      have hW : W.take N = W := List.take_of_length_le (by rw [HWl.out]; exact Nat.le_refl _)
      have hgr := HR.out.gr
      rw [hW] at hgr
      have hmany := hgr.many (tag_act l W HP.out) (fun e he => by
        obtain ⟨j, hj, rfl⟩ := List.mem_map.1 (HP.out.mem_iff.1 he)
        exact (HF.out.all j (List.mem_range.1 hj)).2.2)
      refine ⟨g, out, rfl, HR.out.len, HR.out.row, HR.out.bel, hg0, ?_⟩
      rcases hgr.out with ⟨e1, e2, _⟩ | ⟨_, e2, y, hy, j, _, e4, e5⟩
      · refine .inl ⟨by rw [← HWl.out, e1]; rfl, ?_⟩
        rw [← hmany, e2]; rfl
      · rw [hmany] at e5
        refine .inr ⟨fun j => by rw [← hmany]; exact e2 j, j, by rw [← HR.out.len]; exact e4, e5⟩
end Go.Proofs.Ytdalffmmkhcdaaa
