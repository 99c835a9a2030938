/- WALKS: order.Merge of two lists whose keys do not fall. -/
import Derived.Test.YtienepcknafddaaDoorM5
import Derived.Test.YtienepcknafddaaDoorM23
import Derived.Deep.RegionLaw
section
set_option linter.unusedVariables false
set_option linter.unusedSimpArgs false
namespace Go.Proofs.YtienepcknafddaaDoor
open Go Go.RowKit SimPlain HeapPlain SymPlain

/-- order.Sorted answers yes -/
def Fine (w : World) (a : Option Addr) (l : List Ev) : Prop := EvA w a l ∧ chkI l = 0 ∧ Rises l
theorem sorted_fine (l : List Ev) (a : Option Addr) (cap : Nat) (w : World) (h : Fine w a l) :
    Calls Tryd.prog 50 #[.slice a l.length cap] w fun e w' => e = .returned (.tuple #[.bool true, .nilIface]) ∧ Below w.heap.size w w' := by
  by_cases h0 : 0 < l.length
  · exact sorted_yes l a cap w h.1 h.2.1 h0 h.2.2
  · have : l.length = 0 := by omega
    rw [this]
    exact sorted_nil a cap w
def slLen : Value → Nat
  | .slice _ n _ => n
  | _ => 0
/-- where the merge stands: A1, B1 are left, D is done -/
structure MInv (w : World) (A B : List Ev) (wr : World) (A1 B1 D : List Ev) (a1 : Option Addr) (c1 : Nat) (b1 : Option Addr) (c2 : Nat) (o : Option Addr) (c3 : Nat) : Prop where
  eA : EvA w a1 A1
  eB : EvA w b1 B1
  capA : A1.length ≤ c1
  capB : B1.length ≤ c2
  rest : D ++ mergeP A1 B1 = mergeP A B
  own : EtOwn wr w.heap.size o c3 D
  below : Below w.heap.size w wr
  len : D.length + A1.length + B1.length = A.length + B.length
  h60 : A.length + B.length ≤ 60
theorem nil_of {x : Ev} {l : List Ev} {c : Nat} (h : (x :: l).length ≤ c) (hc : c = 1) : l = [] := by
  have : l.length = 0 := by simp at h; omega
  simpa using this
theorem EvA.tl {w : World} {b off : Nat} {x : Ev} {l : List Ev} (h : EvA w (some ⟨b, off, none⟩) (x :: l)) : EvA w (some ⟨b, off + 2, none⟩) l := by
  rcases h with h | ⟨b', o', e, h1, h2⟩
  · cases h
  · simp only [Option.some.injEq, Addr.mk.injEq, and_true] at e
    obtain ⟨rfl, rfl⟩ := e
    refine .inr ⟨b, off + 2, rfl, h1, fun i hi => ?_⟩
    have := h2 (i + 1) (by simpa using hi)
    rw [show off + 2 + i * 2 = off + (i + 1) * 2 by omega]
    simpa using this
set_option maxRecDepth 100000 in
set_option maxHeartbeats 600000 in
theorem Merge_any (A B : List Ev) (a b : Option Addr) (ca cb : Nat) (w : World) (hA : Fine w a A) (hB : Fine w b B) (h60 : A.length + B.length ≤ 60) (hca : A.length ≤ ca) (hcb : B.length ≤ cb) :
    Calls Tryd.prog 41 #[.slice a A.length ca, .slice b B.length cb] w fun e w' => ∃ r c, e = .returned (.tuple #[.slice r (A.length + B.length) c, .nilIface]) ∧ EtOwn w' w.heap.size r c (mergeP A B) ∧ Below w.heap.size w w' := by
  have HSA := Lib.hid (fun (w1 : World) (hb : Below w.heap.size w w1) => sorted_fine A a ca w1 ⟨hA.1.below hb, hA.2⟩)
  have HSB := Lib.hid (fun (w1 : World) (hb : Below w.heap.size w w1) => sorted_fine B b cb w1 ⟨hB.1.below hb, hB.2⟩)
  have HEA := Lib.hid hA.1
  have HEB := Lib.hid hB.1
  obtain ⟨N, hN⟩ : ∃ N, N = A.length := ⟨_, rfl⟩
  obtain ⟨M, hM⟩ : ∃ M, M = B.length := ⟨_, rfl⟩
  have HN := Lib.hid hN
  have HM := Lib.hid hM
  rw [← hN] at HSA h60 hca ⊢
  rw [← hM] at HSB h60 hcb ⊢
  clear hA hB hN hM
  go_enter Tryd.func41, Tryd.ntmps41
  go_wp2
  refine wp_loop_rounds 3 ?_
  rw [rounds_succ]
  go_wp2_with fail
  refine (HSA.out _ ((Below.refl _ _).alloc (Nat.le_refl _) _)).mono ?_
  rintro e w1 ⟨rfl, hb1⟩
  have hc1 : w1.cell? ⟨w.heap.size, 1, none⟩ = some (.slice b M cb) := (hb1.cell (p := ⟨w.heap.size, 1, none⟩) (by simp)).trans (by unfold World.cell?; rw [heap_alloc_new]; rfl)
  have hB1 := (((Below.refl w.heap.size w).alloc (Nat.le_refl _) (.cells #[.slice a N ca, .slice b M cb] 22)).trans (hb1.mono (by simp)))
  have HB1 := Lib.hid hB1
  clear hb1 hB1
  go_wp2
  rw [rounds_succ]
  go_wp2_with fail
  refine (HSB.out _ HB1.out).mono ?_
  rintro e w2 ⟨rfl, hb2⟩
  have HB2 := Lib.hid (HB1.out.trans (hb2.mono HB1.out.size))
  clear hb2 hc1
  have hw2 : w.heap.size ≤ w2.heap.size := HB2.out.size
  obtain ⟨i0, hi0, hz0, hz1, hz2⟩ := info_parts etInfo
  obtain ⟨w3, hm3, ho3, hg3⟩ := run_makeSlice_owned (P := Tryd.prog) (w := w2) w.heap.size 22 34 i0 _ 2 Tryd.underlying22 hi0 hz0 hz1 .i64 .i64 (N + M) (by omega) (by rw [hz2]; omega) (by unfold maxLen; omega) hw2
  have hm3' : (Instr.makeSlice 22 (.int .i64 0) (.int .i64 ((N : Int) + (M : Int)))).run Tryd.prog w2 = .ok (.slice (some ⟨w2.heap.size, 0, none⟩) 0 (N + M)) w3 := by
    rw [← hm3]; simp
  have HO3 := Lib.hid ho3
  have HB3 := Lib.hid (HB2.out.trans (grown_below hg3 hw2 (by simp)))
  have hgt : decide ((60 : Int) < (N : Int) + (M : Int)) = false := by simp; omega
  clear hm3 ho3 hg3 hi0 hz0 hz1 hz2
  obtain ⟨n0, hn0⟩ : ∃ n0, n0 = w2.heap.size := ⟨_, rfl⟩
  have hI0 : Hid (∃ A1 B1 D a1 c1 b1 c2 o c3, Value.slice a N ca = .slice a1 A1.length c1 ∧ Value.slice b M cb = .slice b1 B1.length c2 ∧ Value.slice (some ⟨w2.heap.size, 0, none⟩) 0 (N + M) = .slice o D.length c3 ∧ MInv w A B w3 A1 B1 D a1 c1 b1 c2 o c3) := Lib.hid
    ⟨A, B, [], a, ca, b, cb, some ⟨w2.heap.size, 0, none⟩, N + M, by rw [HN.out], by rw [HM.out], rfl, HEA.out, HEB.out, by rw [← HN.out]; exact hca, by rw [← HM.out]; exact hcb, rfl, HO3.out, HB3.out, by simp, by rw [← HN.out, ← HM.out]; exact h60⟩
  go_wp2
  rw [rounds_succ]
  go_wp2
  go_loopw [0, 1, 10] (fun t0 t1 t10 wr => ∃ A1 B1 D a1 c1 b1 c2 o c3, t0 = .slice a1 A1.length c1 ∧ t1 = .slice b1 B1.length c2 ∧ t10 = .slice o D.length c3 ∧ MInv w A B wr A1 B1 D a1 c1 b1 c2 o c3) (fun t0 t1 _ _ => slLen t0 + slLen t1)
  case atStart => exact hI0.out
  case round =>
    obtain ⟨A1, B1, D, a1, c1, b1, c2, o, c3, rfl, rfl, rfl, hV⟩ := hrel
    rename World => wr
    have HV := Lib.hid hV
    have hown : wr.ownsRow w.heap.size 34 2 (.slice o D.length c3) D.length (flat2 D) := hV.own
    obtain ⟨i9, hi0, hz0, hz1, hz2⟩ := info_parts etInfo
    have hle := hV.below.size
    have hlen := hV.len
    have h60' := hV.h60
    have hlt : ∀ k, (Value.slice o D.length c3).ownBlock = some k → w.heap.size ≤ k := fun k e => (hV.own.lt k e).1
    cases A1 with
    | nil =>
      cases B1 with
      | nil =>
        have hfin : Hid (∃ r c, (Value.tuple #[.slice o D.length c3, .nilIface]) = .tuple #[.slice r (N + M) c, .nilIface] ∧ EtOwn wr w.heap.size r c (mergeP A B) ∧ Below w.heap.size w wr) := Lib.hid (by
          have hr := hV.rest
          rw [mergeP_nil, List.append_nil] at hr
          have hl : D.length = N + M := by have := hV.len; rw [HN.out, HM.out]; simpa using this
          exact ⟨o, c3, by rw [hl], by rw [← hr]; exact hV.own, hV.below⟩)
        clear hV hown hlen hlt
        go_wp2
        refine bodyPost_ret (results_tmp2 rfl _ _ _) rfl ?_
        obtain ⟨r, c, e1, e2, e3⟩ := hfin.out
        exact ⟨r, c, by rw [← e1]; rfl, e2, e3⟩
      | cons y B2 =>
        obtain ⟨b5, off5, rfl, hbl5, hc5⟩ := hV.eB.open (by simp)
        have hy0 : wr.cell? ⟨b5, off5, none⟩ = some (.int .i64 y.t) := (hV.below.cell (p := ⟨b5, off5, none⟩) hbl5).trans (by simpa using (hc5 0 (by simp)).1)
        have hy1 : wr.cell? ⟨b5, off5 + 1, none⟩ = some (.int .i64 y.id) := (hV.below.cell (p := ⟨b5, off5 + 1, none⟩) hbl5).trans (by simpa using (hc5 0 (by simp)).2)
        clear hc5
        simp only [List.length_nil] at hlen ⊢
        generalize hmB : (y :: B2).length = mB at hlen ⊢
        have zB1 : mB ≠ 0 := by rw [← hmB]; simp
        have zB2 : (mB : Int) ≠ 0 := by omega
        have zB3 : (0 : Int) < (mB : Int) := by omega
        have zB4 : mB - 1 = B2.length := by rw [← hmB]; simp
        have zB5 : ((mB : Int) == 0) = false := by simp; omega
        have zB6 : decide ((0 : Int) < (mB : Int)) = true := decide_eq_true (by omega)
        clear hV
        have hcap0 : 1 ≤ c2 := by have := HV.out.capB; simp at this; omega
        have hm1 : (1 : Int) ≤ (mB : Int) := by omega
        have hcap1 : (1 : Int) ≤ (c2 : Int) := by omega
        by_cases hcd : c2 = 1
        · have post : Hid (∀ (v2 : Value) (w2 : World), w2.ownsRow w.heap.size 34 2 v2 (D.length + 1) (flat2 D ++ [.int .i64 y.t, .int .i64 y.id]) → (wr.alloc (.cells #[.int .i64 y.t, .int .i64 y.id] 34)).drew.drew.grownBy w2 (Value.slice o D.length c3).ownBlock →
              ∃ a3 cap3, v2 = .slice a3 (D ++ [y]).length cap3 ∧ MInv w A B w2 [] B2 (D ++ [y]) a1 c1 (some ⟨b5, off5, none⟩) (c2 - 1) a3 cap3) := by
            refine Lib.hid fun v2 w2 own2 gr2 => ?_
            have own3 : w2.ownsRow w.heap.size 34 2 v2 (D.length + 1) (flat2 (D ++ [y])) := by rw [flat2_append]; exact own2
            obtain ⟨a3, cap3, rfl, hE⟩ := EtOwn.of own3
            have hb4 : Below w.heap.size w w2 := (drewN_below (drewN_below (HV.out.below.alloc hle _) 1) 1).grown gr2 (by show w.heap.size ≤ (wr.alloc _).heap.size; simp; omega) (fun kk e => hlt kk e)
            refine ⟨a3, cap3, by simp, ⟨HV.out.eA, (.inl (nil_of HV.out.capB hcd)), HV.out.capA, by have := HV.out.capB; simp at this; omega, ?_, hE, hb4, by have := HV.out.len; simp at this ⊢; omega, HV.out.h60⟩⟩
            have hr := HV.out.rest
            rw [mergeP_nil] at hr ⊢
            rw [← hr]; simp
          go_upto_region 14 with fail
          go_region
          go_upto_region 16 with fail
          skip
          go_region_law
            ((refine step_append_lies _ (by rfl) _ _ _ (by rfl) w.heap.size 34 i9 _ 2 16 Tryd.underlying22 hi0 hz0 hz1 hz2 rfl (by omega) (.slice o D.length c3) D.length (flat2 D) (by rfl) (World.ownsRow.alloc (World.ownsRow.drew (World.ownsRow.drew hown)) _) ⟨wr.heap.size, 0, none⟩ 1 1 [.int .i64 y.t, .int .i64 y.id] (by rfl) (by rfl) (World.news_of_block (cs := #[.int .i64 y.t, .int .i64 y.id]) (t := 34) (fr := (0, 0)) (heap_alloc_new _ _)) (by simp [Value.oneCell']) (by omega) (by unfold maxLen; omega) (by omega) (by simp; omega) (wr.heap.size + 1) (by simp) ?_; intro gg cap2 w2 hown2 hgr hat hlt2; obtain ⟨a3, cap3, hsl, hM3⟩ := post.out _ w2 hown2 hgr; have HM3 := Lib.hid hM3; have Hsl := Lib.hid hsl; clear hM3 hsl hown2 hgr hat hlt2))
          all_goals
            go_wp2
            try simp only [List.getElem_toArray, List.getElem_cons_succ, List.getElem_cons_zero, Act.put, List.setIfInBounds_toArray, List.set_cons_zero, List.set_cons_succ]
            go_roundw
            case rel =>
              first
                | exact ⟨[], B2, D ++ [y], _, _, _, _, a3, cap3, by first | rfl | (simp [zB4, hcd]; done) | (simp [zB4]; done), by first | rfl | (simp [zB4, hcd]; done) | (simp [zB4]; done), Hsl.out, HM3.out⟩
                | exact ⟨_, _, _, ⟨[], B2, D ++ [y], _, _, by first | rfl | (simp [zB4, hcd]; done) | (simp [zB4]; done), _, _, by first | rfl | (simp [zB4, hcd]; done) | (simp [zB4]; done), a3, cap3, Hsl.out, HM3.out⟩, rfl, rfl, rfl⟩
            case measure => simp [slLen]; omega
        · have post : Hid (∀ (v2 : Value) (w2 : World), w2.ownsRow w.heap.size 34 2 v2 (D.length + 1) (flat2 D ++ [.int .i64 y.t, .int .i64 y.id]) → (wr.alloc (.cells #[.int .i64 y.t, .int .i64 y.id] 34)).drew.drew.grownBy w2 (Value.slice o D.length c3).ownBlock →
              ∃ a3 cap3, v2 = .slice a3 (D ++ [y]).length cap3 ∧ MInv w A B w2 [] B2 (D ++ [y]) a1 c1 (some ⟨b5, off5 + 2, none⟩) (c2 - 1) a3 cap3) := by
            refine Lib.hid fun v2 w2 own2 gr2 => ?_
            have own3 : w2.ownsRow w.heap.size 34 2 v2 (D.length + 1) (flat2 (D ++ [y])) := by rw [flat2_append]; exact own2
            obtain ⟨a3, cap3, rfl, hE⟩ := EtOwn.of own3
            have hb4 : Below w.heap.size w w2 := (drewN_below (drewN_below (HV.out.below.alloc hle _) 1) 1).grown gr2 (by show w.heap.size ≤ (wr.alloc _).heap.size; simp; omega) (fun kk e => hlt kk e)
            refine ⟨a3, cap3, by simp, ⟨HV.out.eA, HV.out.eB.tl, HV.out.capA, by have := HV.out.capB; simp at this; omega, ?_, hE, hb4, by have := HV.out.len; simp at this ⊢; omega, HV.out.h60⟩⟩
            have hr := HV.out.rest
            rw [mergeP_nil] at hr ⊢
            rw [← hr]; simp
          go_upto_region 14 with fail
          go_region
          go_upto_region 16 with fail
          skip
          go_region_law
            ((refine step_append_lies _ (by rfl) _ _ _ (by rfl) w.heap.size 34 i9 _ 2 16 Tryd.underlying22 hi0 hz0 hz1 hz2 rfl (by omega) (.slice o D.length c3) D.length (flat2 D) (by rfl) (World.ownsRow.alloc (World.ownsRow.drew (World.ownsRow.drew hown)) _) ⟨wr.heap.size, 0, none⟩ 1 1 [.int .i64 y.t, .int .i64 y.id] (by rfl) (by rfl) (World.news_of_block (cs := #[.int .i64 y.t, .int .i64 y.id]) (t := 34) (fr := (0, 0)) (heap_alloc_new _ _)) (by simp [Value.oneCell']) (by omega) (by unfold maxLen; omega) (by omega) (by simp; omega) (wr.heap.size + 1) (by simp) ?_; intro gg cap2 w2 hown2 hgr hat hlt2; obtain ⟨a3, cap3, hsl, hM3⟩ := post.out _ w2 hown2 hgr; have HM3 := Lib.hid hM3; have Hsl := Lib.hid hsl; clear hM3 hsl hown2 hgr hat hlt2))
          all_goals
            go_wp2
            try simp only [List.getElem_toArray, List.getElem_cons_succ, List.getElem_cons_zero, Act.put, List.setIfInBounds_toArray, List.set_cons_zero, List.set_cons_succ]
            go_roundw
            case rel =>
              first
                | exact ⟨[], B2, D ++ [y], _, _, _, _, a3, cap3, by first | rfl | (simp [zB4, hcd]; done) | (simp [zB4]; done), by first | rfl | (simp [zB4, hcd]; done) | (simp [zB4]; done), Hsl.out, HM3.out⟩
                | exact ⟨_, _, _, ⟨[], B2, D ++ [y], _, _, by first | rfl | (simp [zB4, hcd]; done) | (simp [zB4]; done), _, _, by first | rfl | (simp [zB4, hcd]; done) | (simp [zB4]; done), a3, cap3, Hsl.out, HM3.out⟩, rfl, rfl, rfl⟩
            case measure => simp [slLen]; omega
    | cons x A2 =>
      obtain ⟨b, off, rfl, hbl, hc⟩ := hV.eA.open (by simp)
      have hx0 : wr.cell? ⟨b, off, none⟩ = some (.int .i64 x.t) := (hV.below.cell (p := ⟨b, off, none⟩) hbl).trans (by simpa using (hc 0 (by simp)).1)
      have hx1 : wr.cell? ⟨b, off + 1, none⟩ = some (.int .i64 x.id) := (hV.below.cell (p := ⟨b, off + 1, none⟩) hbl).trans (by simpa using (hc 0 (by simp)).2)
      clear hc
      cases B1 with
      | nil =>
        simp only [List.length_nil] at hlen ⊢
        generalize hmA : (x :: A2).length = mA at hlen ⊢
        have zA1 : mA ≠ 0 := by rw [← hmA]; simp
        have zA2 : (mA : Int) ≠ 0 := by omega
        have zA3 : (0 : Int) < (mA : Int) := by omega
        have zA4 : mA - 1 = A2.length := by rw [← hmA]; simp
        have zA5 : ((mA : Int) == 0) = false := by simp; omega
        have zA6 : decide ((0 : Int) < (mA : Int)) = true := decide_eq_true (by omega)
        have zA7 : decide (0 < mA) = true := decide_eq_true (by omega)
        have zA8 : 0 < mA := by omega
        clear hV
        have hcap0 : 1 ≤ c1 := by have := HV.out.capA; simp at this; omega
        have hm1 : (1 : Int) ≤ (mA : Int) := by omega
        have hcap1 : (1 : Int) ≤ (c1 : Int) := by omega
        by_cases hcc : c1 = 1
        · have post : Hid (∀ (v2 : Value) (w2 : World), w2.ownsRow w.heap.size 34 2 v2 (D.length + 1) (flat2 D ++ [.int .i64 x.t, .int .i64 x.id]) → (wr.alloc (.cells #[.int .i64 x.t, .int .i64 x.id] 34)).drew.drew.grownBy w2 (Value.slice o D.length c3).ownBlock →
              ∃ a3 cap3, v2 = .slice a3 (D ++ [x]).length cap3 ∧ MInv w A B w2 A2 [] (D ++ [x]) (some ⟨b, off, none⟩) (c1 - 1) b1 c2 a3 cap3) := by
            refine Lib.hid fun v2 w2 own2 gr2 => ?_
            have own3 : w2.ownsRow w.heap.size 34 2 v2 (D.length + 1) (flat2 (D ++ [x])) := by rw [flat2_append]; exact own2
            obtain ⟨a3, cap3, rfl, hE⟩ := EtOwn.of own3
            have hb4 : Below w.heap.size w w2 := (drewN_below (drewN_below (HV.out.below.alloc hle _) 1) 1).grown gr2 (by show w.heap.size ≤ (wr.alloc _).heap.size; simp; omega) (fun kk e => hlt kk e)
            refine ⟨a3, cap3, by simp, ⟨(.inl (nil_of HV.out.capA hcc)), HV.out.eB, by have := HV.out.capA; simp at this; omega, HV.out.capB, ?_, hE, hb4, by have := HV.out.len; simp at this ⊢; omega, HV.out.h60⟩⟩
            have hr := HV.out.rest
            rw [mergeP_nil'] at hr ⊢
            rw [← hr]; simp
          go_upto_region 14 with fail
          go_region
          go_upto_region 15 with fail
          skip
          go_region_law
            ((refine step_append_lies _ (by rfl) _ _ _ (by rfl) w.heap.size 34 i9 _ 2 16 Tryd.underlying22 hi0 hz0 hz1 hz2 rfl (by omega) (.slice o D.length c3) D.length (flat2 D) (by rfl) (World.ownsRow.alloc (World.ownsRow.drew (World.ownsRow.drew hown)) _) ⟨wr.heap.size, 0, none⟩ 1 1 [.int .i64 x.t, .int .i64 x.id] (by rfl) (by rfl) (World.news_of_block (cs := #[.int .i64 x.t, .int .i64 x.id]) (t := 34) (fr := (0, 0)) (heap_alloc_new _ _)) (by simp [Value.oneCell']) (by omega) (by unfold maxLen; omega) (by omega) (by simp; omega) (wr.heap.size + 1) (by simp) ?_; intro gg cap2 w2 hown2 hgr hat hlt2; obtain ⟨a3, cap3, hsl, hM3⟩ := post.out _ w2 hown2 hgr; have HM3 := Lib.hid hM3; have Hsl := Lib.hid hsl; clear hM3 hsl hown2 hgr hat hlt2))
          all_goals
            go_wp2
            try simp only [List.getElem_toArray, List.getElem_cons_succ, List.getElem_cons_zero, Act.put, List.setIfInBounds_toArray, List.set_cons_zero, List.set_cons_succ]
            go_roundw
            case rel =>
              first
                | exact ⟨A2, [], D ++ [x], _, _, _, _, a3, cap3, by first | rfl | (simp [zA4, hcc]; done) | (simp [zA4]; done), by first | rfl | (simp [zA4, hcc]; done) | (simp [zA4]; done), Hsl.out, HM3.out⟩
                | exact ⟨_, _, _, ⟨A2, [], D ++ [x], _, _, by first | rfl | (simp [zA4, hcc]; done) | (simp [zA4]; done), _, _, by first | rfl | (simp [zA4, hcc]; done) | (simp [zA4]; done), a3, cap3, Hsl.out, HM3.out⟩, rfl, rfl, rfl⟩
            case measure => simp [slLen]; omega
        · have post : Hid (∀ (v2 : Value) (w2 : World), w2.ownsRow w.heap.size 34 2 v2 (D.length + 1) (flat2 D ++ [.int .i64 x.t, .int .i64 x.id]) → (wr.alloc (.cells #[.int .i64 x.t, .int .i64 x.id] 34)).drew.drew.grownBy w2 (Value.slice o D.length c3).ownBlock →
              ∃ a3 cap3, v2 = .slice a3 (D ++ [x]).length cap3 ∧ MInv w A B w2 A2 [] (D ++ [x]) (some ⟨b, off + 2, none⟩) (c1 - 1) b1 c2 a3 cap3) := by
            refine Lib.hid fun v2 w2 own2 gr2 => ?_
            have own3 : w2.ownsRow w.heap.size 34 2 v2 (D.length + 1) (flat2 (D ++ [x])) := by rw [flat2_append]; exact own2
            obtain ⟨a3, cap3, rfl, hE⟩ := EtOwn.of own3
            have hb4 : Below w.heap.size w w2 := (drewN_below (drewN_below (HV.out.below.alloc hle _) 1) 1).grown gr2 (by show w.heap.size ≤ (wr.alloc _).heap.size; simp; omega) (fun kk e => hlt kk e)
            refine ⟨a3, cap3, by simp, ⟨HV.out.eA.tl, HV.out.eB, by have := HV.out.capA; simp at this; omega, HV.out.capB, ?_, hE, hb4, by have := HV.out.len; simp at this ⊢; omega, HV.out.h60⟩⟩
            have hr := HV.out.rest
            rw [mergeP_nil'] at hr ⊢
            rw [← hr]; simp
          go_upto_region 14 with fail
          go_region
          go_upto_region 15 with fail
          skip
          go_region_law
            ((refine step_append_lies _ (by rfl) _ _ _ (by rfl) w.heap.size 34 i9 _ 2 16 Tryd.underlying22 hi0 hz0 hz1 hz2 rfl (by omega) (.slice o D.length c3) D.length (flat2 D) (by rfl) (World.ownsRow.alloc (World.ownsRow.drew (World.ownsRow.drew hown)) _) ⟨wr.heap.size, 0, none⟩ 1 1 [.int .i64 x.t, .int .i64 x.id] (by rfl) (by rfl) (World.news_of_block (cs := #[.int .i64 x.t, .int .i64 x.id]) (t := 34) (fr := (0, 0)) (heap_alloc_new _ _)) (by simp [Value.oneCell']) (by omega) (by unfold maxLen; omega) (by omega) (by simp; omega) (wr.heap.size + 1) (by simp) ?_; intro gg cap2 w2 hown2 hgr hat hlt2; obtain ⟨a3, cap3, hsl, hM3⟩ := post.out _ w2 hown2 hgr; have HM3 := Lib.hid hM3; have Hsl := Lib.hid hsl; clear hM3 hsl hown2 hgr hat hlt2))
          all_goals
            go_wp2
            try simp only [List.getElem_toArray, List.getElem_cons_succ, List.getElem_cons_zero, Act.put, List.setIfInBounds_toArray, List.set_cons_zero, List.set_cons_succ]
            go_roundw
            case rel =>
              first
                | exact ⟨A2, [], D ++ [x], _, _, _, _, a3, cap3, by first | rfl | (simp [zA4, hcc]; done) | (simp [zA4]; done), by first | rfl | (simp [zA4, hcc]; done) | (simp [zA4]; done), Hsl.out, HM3.out⟩
                | exact ⟨_, _, _, ⟨A2, [], D ++ [x], _, _, by first | rfl | (simp [zA4, hcc]; done) | (simp [zA4]; done), _, _, by first | rfl | (simp [zA4, hcc]; done) | (simp [zA4]; done), a3, cap3, Hsl.out, HM3.out⟩, rfl, rfl, rfl⟩
            case measure => simp [slLen]; omega
      | cons y B2 =>
        obtain ⟨b5, off5, rfl, hbl5, hc5⟩ := hV.eB.open (by simp)
        have hy0 : wr.cell? ⟨b5, off5, none⟩ = some (.int .i64 y.t) := (hV.below.cell (p := ⟨b5, off5, none⟩) hbl5).trans (by simpa using (hc5 0 (by simp)).1)
        have hy1 : wr.cell? ⟨b5, off5 + 1, none⟩ = some (.int .i64 y.id) := (hV.below.cell (p := ⟨b5, off5 + 1, none⟩) hbl5).trans (by simpa using (hc5 0 (by simp)).2)
        clear hc5
        generalize hmA : (x :: A2).length = mA at hlen ⊢
        have zA1 : mA ≠ 0 := by rw [← hmA]; simp
        have zA2 : (mA : Int) ≠ 0 := by omega
        have zA3 : (0 : Int) < (mA : Int) := by omega
        have zA4 : mA - 1 = A2.length := by rw [← hmA]; simp
        have zA5 : ((mA : Int) == 0) = false := by simp; omega
        have zA6 : decide ((0 : Int) < (mA : Int)) = true := decide_eq_true (by omega)
        have zA7 : decide (0 < mA) = true := decide_eq_true (by omega)
        have zA8 : 0 < mA := by omega
        generalize hmB : (y :: B2).length = mB at hlen ⊢
        have zB1 : mB ≠ 0 := by rw [← hmB]; simp
        have zB2 : (mB : Int) ≠ 0 := by omega
        have zB3 : (0 : Int) < (mB : Int) := by omega
        have zB4 : mB - 1 = B2.length := by rw [← hmB]; simp
        have zB5 : ((mB : Int) == 0) = false := by simp; omega
        have zB6 : decide ((0 : Int) < (mB : Int)) = true := decide_eq_true (by omega)
        have zB7 : decide (0 < mB) = true := decide_eq_true (by omega)
        have zB8 : 0 < mB := by omega
        clear hV
        by_cases hxy : x.t ≤ y.t
        · have hxy3 : decide (x.t ≤ y.t) = true := decide_eq_true hxy
          have hcap0 : 1 ≤ c1 := by have := HV.out.capA; simp at this; omega
          have hm1 : (1 : Int) ≤ (mA : Int) := by omega
          have hcap1 : (1 : Int) ≤ (c1 : Int) := by omega
          by_cases hcc : c1 = 1
          · have post : Hid (∀ (v2 : Value) (w2 : World), w2.ownsRow w.heap.size 34 2 v2 (D.length + 1) (flat2 D ++ [.int .i64 x.t, .int .i64 x.id]) → (wr.alloc (.cells #[.int .i64 x.t, .int .i64 x.id] 34)).drew.drew.grownBy w2 (Value.slice o D.length c3).ownBlock →
                ∃ a3 cap3, v2 = .slice a3 (D ++ [x]).length cap3 ∧ MInv w A B w2 A2 (y :: B2) (D ++ [x]) (some ⟨b, off, none⟩) (c1 - 1) (some ⟨b5, off5, none⟩) c2 a3 cap3) := by
              refine Lib.hid fun v2 w2 own2 gr2 => ?_
              have own3 : w2.ownsRow w.heap.size 34 2 v2 (D.length + 1) (flat2 (D ++ [x])) := by rw [flat2_append]; exact own2
              obtain ⟨a3, cap3, rfl, hE⟩ := EtOwn.of own3
              have hb4 : Below w.heap.size w w2 := (drewN_below (drewN_below (HV.out.below.alloc hle _) 1) 1).grown gr2 (by show w.heap.size ≤ (wr.alloc _).heap.size; simp; omega) (fun kk e => hlt kk e)
              refine ⟨a3, cap3, by simp, ⟨(.inl (nil_of HV.out.capA hcc)), HV.out.eB, by have := HV.out.capA; simp at this; omega, HV.out.capB, ?_, hE, hb4, by have := HV.out.len; simp at this ⊢; omega, HV.out.h60⟩⟩
              have hr := HV.out.rest
              rw [mergeP_le hxy] at hr
              rw [← hr]; simp
            go_upto_region 14 with fail
            go_region
            go_upto_region 15 with fail
            skip
            go_region_law
              ((refine step_append_lies _ (by rfl) _ _ _ (by rfl) w.heap.size 34 i9 _ 2 16 Tryd.underlying22 hi0 hz0 hz1 hz2 rfl (by omega) (.slice o D.length c3) D.length (flat2 D) (by rfl) (World.ownsRow.alloc (World.ownsRow.drew (World.ownsRow.drew hown)) _) ⟨wr.heap.size, 0, none⟩ 1 1 [.int .i64 x.t, .int .i64 x.id] (by rfl) (by rfl) (World.news_of_block (cs := #[.int .i64 x.t, .int .i64 x.id]) (t := 34) (fr := (0, 0)) (heap_alloc_new _ _)) (by simp [Value.oneCell']) (by omega) (by unfold maxLen; omega) (by omega) (by simp; omega) (wr.heap.size + 1) (by simp) ?_; intro gg cap2 w2 hown2 hgr hat hlt2; obtain ⟨a3, cap3, hsl, hM3⟩ := post.out _ w2 hown2 hgr; have HM3 := Lib.hid hM3; have Hsl := Lib.hid hsl; clear hM3 hsl hown2 hgr hat hlt2))
            all_goals
              go_wp2
              try simp only [List.getElem_toArray, List.getElem_cons_succ, List.getElem_cons_zero, Act.put, List.setIfInBounds_toArray, List.set_cons_zero, List.set_cons_succ]
              go_roundw
              case rel =>
                first
                  | exact ⟨A2, (y :: B2), D ++ [x], _, _, _, _, a3, cap3, by first | rfl | (simp [zA4, hcc]; done) | (simp [zA4]; done) | (rw [hmA]) | (rw [hmB]), by first | rfl | (simp [zA4, hcc]; done) | (simp [zA4]; done) | (rw [hmA]) | (rw [hmB]), Hsl.out, HM3.out⟩
                  | exact ⟨_, _, _, ⟨A2, (y :: B2), D ++ [x], _, _, by first | rfl | (simp [zA4, hcc]; done) | (simp [zA4]; done) | (rw [hmA]) | (rw [hmB]), _, _, by first | rfl | (simp [zA4, hcc]; done) | (simp [zA4]; done) | (rw [hmA]) | (rw [hmB]), a3, cap3, Hsl.out, HM3.out⟩, rfl, rfl, rfl⟩
              case measure => simp [slLen]; omega
          · have post : Hid (∀ (v2 : Value) (w2 : World), w2.ownsRow w.heap.size 34 2 v2 (D.length + 1) (flat2 D ++ [.int .i64 x.t, .int .i64 x.id]) → (wr.alloc (.cells #[.int .i64 x.t, .int .i64 x.id] 34)).drew.drew.grownBy w2 (Value.slice o D.length c3).ownBlock →
                ∃ a3 cap3, v2 = .slice a3 (D ++ [x]).length cap3 ∧ MInv w A B w2 A2 (y :: B2) (D ++ [x]) (some ⟨b, off + 2, none⟩) (c1 - 1) (some ⟨b5, off5, none⟩) c2 a3 cap3) := by
              refine Lib.hid fun v2 w2 own2 gr2 => ?_
              have own3 : w2.ownsRow w.heap.size 34 2 v2 (D.length + 1) (flat2 (D ++ [x])) := by rw [flat2_append]; exact own2
              obtain ⟨a3, cap3, rfl, hE⟩ := EtOwn.of own3
              have hb4 : Below w.heap.size w w2 := (drewN_below (drewN_below (HV.out.below.alloc hle _) 1) 1).grown gr2 (by show w.heap.size ≤ (wr.alloc _).heap.size; simp; omega) (fun kk e => hlt kk e)
              refine ⟨a3, cap3, by simp, ⟨HV.out.eA.tl, HV.out.eB, by have := HV.out.capA; simp at this; omega, HV.out.capB, ?_, hE, hb4, by have := HV.out.len; simp at this ⊢; omega, HV.out.h60⟩⟩
              have hr := HV.out.rest
              rw [mergeP_le hxy] at hr
              rw [← hr]; simp
            go_upto_region 14 with fail
            go_region
            go_upto_region 15 with fail
            skip
            go_region_law
              ((refine step_append_lies _ (by rfl) _ _ _ (by rfl) w.heap.size 34 i9 _ 2 16 Tryd.underlying22 hi0 hz0 hz1 hz2 rfl (by omega) (.slice o D.length c3) D.length (flat2 D) (by rfl) (World.ownsRow.alloc (World.ownsRow.drew (World.ownsRow.drew hown)) _) ⟨wr.heap.size, 0, none⟩ 1 1 [.int .i64 x.t, .int .i64 x.id] (by rfl) (by rfl) (World.news_of_block (cs := #[.int .i64 x.t, .int .i64 x.id]) (t := 34) (fr := (0, 0)) (heap_alloc_new _ _)) (by simp [Value.oneCell']) (by omega) (by unfold maxLen; omega) (by omega) (by simp; omega) (wr.heap.size + 1) (by simp) ?_; intro gg cap2 w2 hown2 hgr hat hlt2; obtain ⟨a3, cap3, hsl, hM3⟩ := post.out _ w2 hown2 hgr; have HM3 := Lib.hid hM3; have Hsl := Lib.hid hsl; clear hM3 hsl hown2 hgr hat hlt2))
            all_goals
              go_wp2
              try simp only [List.getElem_toArray, List.getElem_cons_succ, List.getElem_cons_zero, Act.put, List.setIfInBounds_toArray, List.set_cons_zero, List.set_cons_succ]
              go_roundw
              case rel =>
                first
                  | exact ⟨A2, (y :: B2), D ++ [x], _, _, _, _, a3, cap3, by first | rfl | (simp [zA4, hcc]; done) | (simp [zA4]; done) | (rw [hmA]) | (rw [hmB]), by first | rfl | (simp [zA4, hcc]; done) | (simp [zA4]; done) | (rw [hmA]) | (rw [hmB]), Hsl.out, HM3.out⟩
                  | exact ⟨_, _, _, ⟨A2, (y :: B2), D ++ [x], _, _, by first | rfl | (simp [zA4, hcc]; done) | (simp [zA4]; done) | (rw [hmA]) | (rw [hmB]), _, _, by first | rfl | (simp [zA4, hcc]; done) | (simp [zA4]; done) | (rw [hmA]) | (rw [hmB]), a3, cap3, Hsl.out, HM3.out⟩, rfl, rfl, rfl⟩
              case measure => simp [slLen]; omega
        · have hxy3 : decide (x.t ≤ y.t) = false := decide_eq_false hxy
          have hcap0 : 1 ≤ c2 := by have := HV.out.capB; simp at this; omega
          have hm1 : (1 : Int) ≤ (mB : Int) := by omega
          have hcap1 : (1 : Int) ≤ (c2 : Int) := by omega
          by_cases hcd : c2 = 1
          · have post : Hid (∀ (v2 : Value) (w2 : World), w2.ownsRow w.heap.size 34 2 v2 (D.length + 1) (flat2 D ++ [.int .i64 y.t, .int .i64 y.id]) → (wr.alloc (.cells #[.int .i64 y.t, .int .i64 y.id] 34)).drew.drew.grownBy w2 (Value.slice o D.length c3).ownBlock →
                ∃ a3 cap3, v2 = .slice a3 (D ++ [y]).length cap3 ∧ MInv w A B w2 (x :: A2) B2 (D ++ [y]) (some ⟨b, off, none⟩) c1 (some ⟨b5, off5, none⟩) (c2 - 1) a3 cap3) := by
              refine Lib.hid fun v2 w2 own2 gr2 => ?_
              have own3 : w2.ownsRow w.heap.size 34 2 v2 (D.length + 1) (flat2 (D ++ [y])) := by rw [flat2_append]; exact own2
              obtain ⟨a3, cap3, rfl, hE⟩ := EtOwn.of own3
              have hb4 : Below w.heap.size w w2 := (drewN_below (drewN_below (HV.out.below.alloc hle _) 1) 1).grown gr2 (by show w.heap.size ≤ (wr.alloc _).heap.size; simp; omega) (fun kk e => hlt kk e)
              refine ⟨a3, cap3, by simp, ⟨HV.out.eA, (.inl (nil_of HV.out.capB hcd)), HV.out.capA, by have := HV.out.capB; simp at this; omega, ?_, hE, hb4, by have := HV.out.len; simp at this ⊢; omega, HV.out.h60⟩⟩
              have hr := HV.out.rest
              rw [mergeP_gt hxy] at hr
              rw [← hr]; simp
            go_upto_region 14 with fail
            go_region
            go_upto_region 16 with fail
            skip
            go_region_law
              ((refine step_append_lies _ (by rfl) _ _ _ (by rfl) w.heap.size 34 i9 _ 2 16 Tryd.underlying22 hi0 hz0 hz1 hz2 rfl (by omega) (.slice o D.length c3) D.length (flat2 D) (by rfl) (World.ownsRow.alloc (World.ownsRow.drew (World.ownsRow.drew hown)) _) ⟨wr.heap.size, 0, none⟩ 1 1 [.int .i64 y.t, .int .i64 y.id] (by rfl) (by rfl) (World.news_of_block (cs := #[.int .i64 y.t, .int .i64 y.id]) (t := 34) (fr := (0, 0)) (heap_alloc_new _ _)) (by simp [Value.oneCell']) (by omega) (by unfold maxLen; omega) (by omega) (by simp; omega) (wr.heap.size + 1) (by simp) ?_; intro gg cap2 w2 hown2 hgr hat hlt2; obtain ⟨a3, cap3, hsl, hM3⟩ := post.out _ w2 hown2 hgr; have HM3 := Lib.hid hM3; have Hsl := Lib.hid hsl; clear hM3 hsl hown2 hgr hat hlt2))
            all_goals
              go_wp2
              try simp only [List.getElem_toArray, List.getElem_cons_succ, List.getElem_cons_zero, Act.put, List.setIfInBounds_toArray, List.set_cons_zero, List.set_cons_succ]
              go_roundw
              case rel =>
                first
                  | exact ⟨(x :: A2), B2, D ++ [y], _, _, _, _, a3, cap3, by first | rfl | (simp [zB4, hcd]; done) | (simp [zB4]; done) | (rw [hmA]) | (rw [hmB]), by first | rfl | (simp [zB4, hcd]; done) | (simp [zB4]; done) | (rw [hmA]) | (rw [hmB]), Hsl.out, HM3.out⟩
                  | exact ⟨_, _, _, ⟨(x :: A2), B2, D ++ [y], _, _, by first | rfl | (simp [zB4, hcd]; done) | (simp [zB4]; done) | (rw [hmA]) | (rw [hmB]), _, _, by first | rfl | (simp [zB4, hcd]; done) | (simp [zB4]; done) | (rw [hmA]) | (rw [hmB]), a3, cap3, Hsl.out, HM3.out⟩, rfl, rfl, rfl⟩
              case measure => simp [slLen]; omega
          · have post : Hid (∀ (v2 : Value) (w2 : World), w2.ownsRow w.heap.size 34 2 v2 (D.length + 1) (flat2 D ++ [.int .i64 y.t, .int .i64 y.id]) → (wr.alloc (.cells #[.int .i64 y.t, .int .i64 y.id] 34)).drew.drew.grownBy w2 (Value.slice o D.length c3).ownBlock →
                ∃ a3 cap3, v2 = .slice a3 (D ++ [y]).length cap3 ∧ MInv w A B w2 (x :: A2) B2 (D ++ [y]) (some ⟨b, off, none⟩) c1 (some ⟨b5, off5 + 2, none⟩) (c2 - 1) a3 cap3) := by
              refine Lib.hid fun v2 w2 own2 gr2 => ?_
              have own3 : w2.ownsRow w.heap.size 34 2 v2 (D.length + 1) (flat2 (D ++ [y])) := by rw [flat2_append]; exact own2
              obtain ⟨a3, cap3, rfl, hE⟩ := EtOwn.of own3
              have hb4 : Below w.heap.size w w2 := (drewN_below (drewN_below (HV.out.below.alloc hle _) 1) 1).grown gr2 (by show w.heap.size ≤ (wr.alloc _).heap.size; simp; omega) (fun kk e => hlt kk e)
              refine ⟨a3, cap3, by simp, ⟨HV.out.eA, HV.out.eB.tl, HV.out.capA, by have := HV.out.capB; simp at this; omega, ?_, hE, hb4, by have := HV.out.len; simp at this ⊢; omega, HV.out.h60⟩⟩
              have hr := HV.out.rest
              rw [mergeP_gt hxy] at hr
              rw [← hr]; simp
            go_upto_region 14 with fail
            go_region
            go_upto_region 16 with fail
            skip
            go_region_law
              ((refine step_append_lies _ (by rfl) _ _ _ (by rfl) w.heap.size 34 i9 _ 2 16 Tryd.underlying22 hi0 hz0 hz1 hz2 rfl (by omega) (.slice o D.length c3) D.length (flat2 D) (by rfl) (World.ownsRow.alloc (World.ownsRow.drew (World.ownsRow.drew hown)) _) ⟨wr.heap.size, 0, none⟩ 1 1 [.int .i64 y.t, .int .i64 y.id] (by rfl) (by rfl) (World.news_of_block (cs := #[.int .i64 y.t, .int .i64 y.id]) (t := 34) (fr := (0, 0)) (heap_alloc_new _ _)) (by simp [Value.oneCell']) (by omega) (by unfold maxLen; omega) (by omega) (by simp; omega) (wr.heap.size + 1) (by simp) ?_; intro gg cap2 w2 hown2 hgr hat hlt2; obtain ⟨a3, cap3, hsl, hM3⟩ := post.out _ w2 hown2 hgr; have HM3 := Lib.hid hM3; have Hsl := Lib.hid hsl; clear hM3 hsl hown2 hgr hat hlt2))
            all_goals
              go_wp2
              try simp only [List.getElem_toArray, List.getElem_cons_succ, List.getElem_cons_zero, Act.put, List.setIfInBounds_toArray, List.set_cons_zero, List.set_cons_succ]
              go_roundw
              case rel =>
                first
                  | exact ⟨(x :: A2), B2, D ++ [y], _, _, _, _, a3, cap3, by first | rfl | (simp [zB4, hcd]; done) | (simp [zB4]; done) | (rw [hmA]) | (rw [hmB]), by first | rfl | (simp [zB4, hcd]; done) | (simp [zB4]; done) | (rw [hmA]) | (rw [hmB]), Hsl.out, HM3.out⟩
                  | exact ⟨_, _, _, ⟨(x :: A2), B2, D ++ [y], _, _, by first | rfl | (simp [zB4, hcd]; done) | (simp [zB4]; done) | (rw [hmA]) | (rw [hmB]), _, _, by first | rfl | (simp [zB4, hcd]; done) | (simp [zB4]; done) | (rw [hmA]) | (rw [hmB]), a3, cap3, Hsl.out, HM3.out⟩, rfl, rfl, rfl⟩
              case measure => simp [slLen]; omega
end Go.Proofs.YtienepcknafddaaDoor
end
