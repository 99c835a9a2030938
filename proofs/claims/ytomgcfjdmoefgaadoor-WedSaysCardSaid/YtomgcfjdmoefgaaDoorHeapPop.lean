/- WALK: core.Heap[int].Pop of a bag. -/
import Derived.Test.YtomgcfjdmoefgaaDoorHeapInt
namespace Go.Proofs.YtomgcfjdmoefgaaDoor
open Go Go.RowKit HeapPlain

theorem Own.cap {w : World} {B : Nat} {E : TypeId} {a : Option Addr} {cap : Nat} {xs : List Int} (h : Own w B E a cap xs) : xs.length ≤ cap ∧ cap ≤ maxLen := by
  rcases h.2 with ⟨h', hz⟩ | ⟨g, cap', cur, h', hb, hg, hc, hm, _⟩
  · simp only [Value.slice.injEq] at h'
    unfold maxLen
    omega
  · simp only [Value.slice.injEq, true_and] at h'
    obtain ⟨_, rfl⟩ := h'
    exact ⟨hc, hm⟩
/-- what Pop tells -/
def PopRes (l : List Int) (a : Option Addr) (cap H B : Nat) (w : World) (e : Ending) (w' : World) : Prop :=
  e = .returned (.int .i64 (l.getD 0 0)) ∧ ∃ l', (l.getD 0 0 :: l').Perm l ∧ HeapI w' B H a cap l' ∧ Only w w' (Touch H a cap l.length)
set_option maxRecDepth 100000 in
set_option maxHeartbeats 4000000 in
theorem Pop_any (l : List Int) (a : Option Addr) (cap H B : Nat) (w : World) (hH : HeapI w B H a cap l) (hl : l.length ≤ 100) (h0 : 0 < l.length) :
    Calls Tryd.prog 72 #[.pointer (some ⟨H, 0, none⟩)] w fun e w' => PopRes l a cap H B w e w' := by
  obtain ⟨g, rfl, _, hgl, hcell, hfro⟩ := hH.row.open h0
  obtain ⟨n, hn⟩ : ∃ n, l.length = n + 1 := ⟨l.length - 1, by omega⟩
  have c0 := hH.c0
  rw [hn] at c0
  obtain ⟨hcap, hcapM⟩ := hH.row.cap
  rw [hn] at hcap
  unfold maxLen at hcapM
  have hcapI : (n : Int) ≤ (cap : Int) := by omega
  have f0 := hH.free 0
  have hHl := hH.lt
  have hgH : g ≠ H := hH.apart g rfl
  have hne1 : ¬ g = H := hgH
  have hne2 : ¬ H = g := fun e => hgH e.symm
  have v0 := hcell 0 h0
  have vn := hcell n (by omega)
  have fr0 := hfro 0
  have hH3 : HeapI ((w.drew.setCell ⟨g, 0, none⟩ (.int .i64 (l.getD n 0))).setCell ⟨H, 0, none⟩ (.slice (some ⟨g, 0, none⟩) n cap)) B H (some ⟨g, 0, none⟩) cap ((l.set 0 (l.getD n 0)).take n) := by
    have h1 := hH.drew.set hgH 0 (l.getD n 0)
    have hlen : ((l.set 0 (l.getD n 0)).take n).length = n := by rw [List.length_take, List.length_set]; omega
    refine ⟨h1.hb, ?_, (h1.row.take n (by rw [List.length_set]; omega) (by rw [List.length_set]; omega)).same (fun k e => heap_setCell_other _ _ _ _ (fun c => ?_)), fun k e => ?_⟩
    · rw [hlen]
      have h2 := h1.h
      rw [List.length_set] at h2
      exact heap_setCell_same _ _ _ _ _ _ h2
    · have : g = k := Option.some.inj e
      exact hgH (this.trans c)
    · have : g = k := Option.some.inj e
      omega
  have hgT : ∀ k, k < w.heap.size → k = g → Touch H (some ⟨g, 0, none⟩) cap l.length k := fun k _ e => .inr (by rw [e]; rfl)
  have hOn3 : Only w ((w.drew.setCell ⟨g, 0, none⟩ (.int .i64 (l.getD n 0))).setCell ⟨H, 0, none⟩ (.slice (some ⟨g, 0, none⟩) n cap)) (Touch H (some ⟨g, 0, none⟩) cap l.length) :=
    (((Only.refl w _).drewN 1).trans (Only.setCell _ ⟨g, 0, none⟩ _ (fun k => k = g) rfl) hgT).trans (Only.setCell _ ⟨H, 0, none⟩ _ (fun k => k = H) rfl) (fun k _ e => .inl e)
  have hperm : (l.getD 0 0 :: (l.set 0 (l.getD n 0)).take n).Perm l := Dn.perm 0 hn
  have hlen : ((l.set 0 (l.getD n 0)).take n).length = n := by rw [List.length_take, List.length_set]; omega
  generalize (l.set 0 (l.getD n 0)).take n = l0 at hH3 hperm hlen
  generalize l.getD n 0 = zn at vn hH3 hOn3
  generalize hx0 : l.getD 0 0 = x0 at v0 hperm
  have Hx0 := Lib.hid hx0
  have Hn := Lib.hid hn
  have HH3 := Lib.hid hH3
  have HOn3 := Lib.hid hOn3
  have HgT := Lib.hid hgT
  have Hperm := Lib.hid hperm
  have Hlen := Lib.hid hlen
  have nI : (n : Int) < (n : Int) + 1 := by omega
  have zI : (0 : Int) < (n : Int) + 1 := by omega
  have n100 : (n : Int) ≤ 100 := by omega
  clear hx0 hn hH3 hOn3 hgT hperm hlen hH hcell hfro
  unfold PopRes
  rw [Hx0.out]
  go_enter Tryd.func72, Tryd.ntmps72
  go_wp2
  go_region
  go_wp2
  go_loopw [5] (fun i wr => ∃ (k : Nat) (l1 : List Int), i = .int .i64 k ∧ k ≤ n ∧ l1.length = n ∧ (x0 :: l1).Perm l ∧ HeapI wr B H (some ⟨g, 0, none⟩) cap l1 ∧ Only w wr (Touch H (some ⟨g, 0, none⟩) cap l.length)) (fun i _ => n - (intOf i).toNat)
  case atStart => exact ⟨0, l0, rfl, Nat.zero_le _, Hlen.out, Hperm.out, HH3.out, HOn3.out⟩
  case round =>
    obtain ⟨k, l1, rfl, hk, hll, hp, hHr, hOr⟩ := hrel
    have e0 := hHr.c0
    have e1 : wr.cell? ⟨H, 1, none⟩ = some (.func (.func 69) #[] #[]) := hHr.c1
    rw [hll] at e0
    have hHl2 := hHr.lt
    have HHr := Lib.hid hHr
    have HOr := Lib.hid hOr
    have Hp := Lib.hid hp
    have Hll := Lib.hid hll
    rcases Nat.lt_or_ge (2 * k + 1) n with hc | hc
    · obtain ⟨g', hg', _, hgl2, hcell, hfro⟩ := hHr.row.open (by omega)
      obtain rfl : g = g' := by simpa using hg'
      have vk := hcell k (by omega)
      have frk := hfro k
      have i1 : (2 * (k : Int) + 1) < (n : Int) := by omega
      have i2 : (k : Int) < (n : Int) := by omega
      clear hHr hOr hp hg'
      rcases Nat.lt_or_ge (2 * k + 1 + 1) n with hc2 | hc2
      · have i3 : (2 * (k : Int) + 1 + 1) < (n : Int) := by omega
        have w1 := hcell (2 * k + 1) (by omega)
        have w2 := hcell (2 * k + 1 + 1) (by omega)
        clear hll
        generalize hy1 : l1.getD (2 * k + 1) 0 = y1 at w1
        generalize hy2 : l1.getD (2 * k + 1 + 1) 0 = y2 at w2
        have Hy1 := Lib.hid hy1
        have Hy2 := Lib.hid hy2
        clear hy1 hy2
        have hllI : n ≤ l1.length := by have := Hll.out; omega
        rcases Int.lt_or_le y2 y1 with he | he
        · have HE := Lib.hid (fun w0 => less_yes he w0)
          have hlt3 : 2 * k + 1 + 1 < l1.length := by omega
          have frc := hfro (2 * k + 1 + 1)
          generalize hu : l1.getD k 0 = u at vk
          have Hu := Lib.hid hu
          have Hcell := Lib.hid hcell
          have Hfro := Lib.hid hfro
          clear hu hcell hfro
          have j1 : (2 * (k : Int) + 1 + 1) < (n : Int) := by omega
          have hne3 : ¬ k = 2 * k + 1 + 1 := by omega
          have hne4 : ¬ 2 * k + 1 + 1 = k := by omega
          rcases Int.lt_or_le y2 u with hd | hd
          · have HD := Lib.hid (fun w0 => less_yes hd w0)
            go_wp2
            go_quiet (with_reducible exact Calls.quiet_of_same (HE.out _))
            go_wp2
            have z0 : (wr.drewN nq).cell? ⟨H, 0, none⟩ = some (.slice (some ⟨g, 0, none⟩) n cap) := e0
            have z1 : (wr.drewN nq).cell? ⟨H, 1, none⟩ = some (.func (.func 69) #[] #[]) := e1
            have z2 : (wr.drewN nq).cell? ⟨g, 2 * k + 1 + 1, none⟩ = some (.int .i64 y2) := w2
            have z3 : (wr.drewN nq).cell? ⟨g, k, none⟩ = some (.int .i64 u) := vk
            have z4 : (wr.drewN nq).frozen? ⟨g, k, none⟩ = false := frk
            have z5 : (wr.drewN nq).frozen? ⟨g, 2 * k + 1 + 1, none⟩ = false := frc
            have HHr2 := Lib.hid (HHr.out.drewN nq)
            have HOr2 := Lib.hid (HOr.out.drewN nq)
            clear e0 e1 w1 w2 vk frk frc hHl2 hgl2 HHr HOr Hcell Hfro
            generalize wr.drewN nq = wq at z0 z1 z2 z3 z4 z5 HHr2 HOr2 ⊢
            go_quiet (with_reducible exact Calls.quiet_of_same (HD.out _))
            go_wp2
            go_region
            all_goals
              go_wp2
              go_roundw
              case rel =>
                refine ⟨2 * k + 1 + 1, swapL 0 l1 k (2 * k + 1 + 1), by go_num, by omega, by rw [swapL_length]; exact Hll.out, (List.Perm.cons _ (perm_swap 0 l1 k (2 * k + 1 + 1) (by omega) hlt3)).trans Hp.out, ?_, ?_⟩
                · have h := ((HHr2.out.drewN (nq + 1)).set hgH k y2).set hgH (2 * k + 1 + 1) u
                  unfold swapL
                  rw [Hu.out, Hy2.out]
                  exact h
                · exact (((HOr2.out.drewN (nq + 1)).trans (Only.setCell _ ⟨g, k, none⟩ _ (fun k => k = g) rfl) HgT.out).trans (Only.setCell _ ⟨g, 2 * k + 1 + 1, none⟩ _ (fun k => k = g) rfl) HgT.out)
              case measure => simp only [intOf]; omega
          · have HD := Lib.hid (fun w0 => less_no hd w0)
            go_wp2
            go_quiet (with_reducible exact Calls.quiet_of_same (HE.out _))
            go_wp2
            have z0 : (wr.drewN nq).cell? ⟨H, 0, none⟩ = some (.slice (some ⟨g, 0, none⟩) n cap) := e0
            have z1 : (wr.drewN nq).cell? ⟨H, 1, none⟩ = some (.func (.func 69) #[] #[]) := e1
            have z2 : (wr.drewN nq).cell? ⟨g, 2 * k + 1 + 1, none⟩ = some (.int .i64 y2) := w2
            have z3 : (wr.drewN nq).cell? ⟨g, k, none⟩ = some (.int .i64 u) := vk
            have z4 : (wr.drewN nq).frozen? ⟨g, k, none⟩ = false := frk
            have z5 : (wr.drewN nq).frozen? ⟨g, 2 * k + 1 + 1, none⟩ = false := frc
            have HHr2 := Lib.hid (HHr.out.drewN nq)
            have HOr2 := Lib.hid (HOr.out.drewN nq)
            clear e0 e1 w1 w2 vk frk frc hHl2 hgl2 HHr HOr Hcell Hfro
            generalize wr.drewN nq = wq at z0 z1 z2 z3 z4 z5 HHr2 HOr2 ⊢
            go_quiet (with_reducible exact Calls.quiet_of_same (HD.out _))
            go_wp2
            go_ret
            exact ⟨rfl, l1, Hp.out, HHr2.out.drewN _, HOr2.out.drewN _⟩
        · have HE := Lib.hid (fun w0 => less_no he w0)
          have hlt3 : 2 * k + 1 < l1.length := by omega
          have frc := hfro (2 * k + 1)
          generalize hu : l1.getD k 0 = u at vk
          have Hu := Lib.hid hu
          have Hcell := Lib.hid hcell
          have Hfro := Lib.hid hfro
          clear hu hcell hfro
          have j1 : (2 * (k : Int) + 1) < (n : Int) := by omega
          have hne3 : ¬ k = 2 * k + 1 := by omega
          have hne4 : ¬ 2 * k + 1 = k := by omega
          rcases Int.lt_or_le y1 u with hd | hd
          · have HD := Lib.hid (fun w0 => less_yes hd w0)
            go_wp2
            go_quiet (with_reducible exact Calls.quiet_of_same (HE.out _))
            go_wp2
            have z0 : (wr.drewN nq).cell? ⟨H, 0, none⟩ = some (.slice (some ⟨g, 0, none⟩) n cap) := e0
            have z1 : (wr.drewN nq).cell? ⟨H, 1, none⟩ = some (.func (.func 69) #[] #[]) := e1
            have z2 : (wr.drewN nq).cell? ⟨g, 2 * k + 1, none⟩ = some (.int .i64 y1) := w1
            have z3 : (wr.drewN nq).cell? ⟨g, k, none⟩ = some (.int .i64 u) := vk
            have z4 : (wr.drewN nq).frozen? ⟨g, k, none⟩ = false := frk
            have z5 : (wr.drewN nq).frozen? ⟨g, 2 * k + 1, none⟩ = false := frc
            have HHr2 := Lib.hid (HHr.out.drewN nq)
            have HOr2 := Lib.hid (HOr.out.drewN nq)
            clear e0 e1 w1 w2 vk frk frc hHl2 hgl2 HHr HOr Hcell Hfro
            generalize wr.drewN nq = wq at z0 z1 z2 z3 z4 z5 HHr2 HOr2 ⊢
            go_quiet (with_reducible exact Calls.quiet_of_same (HD.out _))
            go_wp2
            go_region
            all_goals
              go_wp2
              go_roundw
              case rel =>
                refine ⟨2 * k + 1, swapL 0 l1 k (2 * k + 1), by go_num, by omega, by rw [swapL_length]; exact Hll.out, (List.Perm.cons _ (perm_swap 0 l1 k (2 * k + 1) (by omega) hlt3)).trans Hp.out, ?_, ?_⟩
                · have h := ((HHr2.out.drewN (nq + 1)).set hgH k y1).set hgH (2 * k + 1) u
                  unfold swapL
                  rw [Hu.out, Hy1.out]
                  exact h
                · exact (((HOr2.out.drewN (nq + 1)).trans (Only.setCell _ ⟨g, k, none⟩ _ (fun k => k = g) rfl) HgT.out).trans (Only.setCell _ ⟨g, 2 * k + 1, none⟩ _ (fun k => k = g) rfl) HgT.out)
              case measure => simp only [intOf]; omega
          · have HD := Lib.hid (fun w0 => less_no hd w0)
            go_wp2
            go_quiet (with_reducible exact Calls.quiet_of_same (HE.out _))
            go_wp2
            have z0 : (wr.drewN nq).cell? ⟨H, 0, none⟩ = some (.slice (some ⟨g, 0, none⟩) n cap) := e0
            have z1 : (wr.drewN nq).cell? ⟨H, 1, none⟩ = some (.func (.func 69) #[] #[]) := e1
            have z2 : (wr.drewN nq).cell? ⟨g, 2 * k + 1, none⟩ = some (.int .i64 y1) := w1
            have z3 : (wr.drewN nq).cell? ⟨g, k, none⟩ = some (.int .i64 u) := vk
            have z4 : (wr.drewN nq).frozen? ⟨g, k, none⟩ = false := frk
            have z5 : (wr.drewN nq).frozen? ⟨g, 2 * k + 1, none⟩ = false := frc
            have HHr2 := Lib.hid (HHr.out.drewN nq)
            have HOr2 := Lib.hid (HOr.out.drewN nq)
            clear e0 e1 w1 w2 vk frk frc hHl2 hgl2 HHr HOr Hcell Hfro
            generalize wr.drewN nq = wq at z0 z1 z2 z3 z4 z5 HHr2 HOr2 ⊢
            go_quiet (with_reducible exact Calls.quiet_of_same (HD.out _))
            go_wp2
            go_ret
            exact ⟨rfl, l1, Hp.out, HHr2.out.drewN _, HOr2.out.drewN _⟩
      · have i3 : decide (2 * (k : Int) + 1 + 1 < (n : Int)) = false := by simp; omega
        have i4 : decide (2 * k + 1 + 1 < n) = false := by simp; omega
        have hllI : n ≤ l1.length := by have := Hll.out; omega
        clear hll
        have hlt3 : 2 * k + 1 < l1.length := by omega
        have vc := hcell (2 * k + 1) hlt3
        have frc := hfro (2 * k + 1)
        generalize hu : l1.getD k 0 = u at vk
        generalize hv : l1.getD (2 * k + 1) 0 = v at vc
        have Hu := Lib.hid hu
        have Hv := Lib.hid hv
        have Hcell := Lib.hid hcell
        have Hfro := Lib.hid hfro
        clear hu hv hcell hfro
        have j1 : (2 * (k : Int) + 1) < (n : Int) := by omega
        have hne3 : ¬ k = 2 * k + 1 := by omega
        have hne4 : ¬ 2 * k + 1 = k := by omega
        rcases Int.lt_or_le v u with hd | hd
        · have HD := Lib.hid (fun w0 => less_yes hd w0)
          go_wp2
          go_quiet (fail)
          go_wp2
          have z0 : (wr.drewN nq).cell? ⟨H, 0, none⟩ = some (.slice (some ⟨g, 0, none⟩) n cap) := e0
          have z1 : (wr.drewN nq).cell? ⟨H, 1, none⟩ = some (.func (.func 69) #[] #[]) := e1
          have z2 : (wr.drewN nq).cell? ⟨g, 2 * k + 1, none⟩ = some (.int .i64 v) := vc
          have z3 : (wr.drewN nq).cell? ⟨g, k, none⟩ = some (.int .i64 u) := vk
          have z4 : (wr.drewN nq).frozen? ⟨g, k, none⟩ = false := frk
          have z5 : (wr.drewN nq).frozen? ⟨g, 2 * k + 1, none⟩ = false := frc
          have HHr2 := Lib.hid (HHr.out.drewN nq)
          have HOr2 := Lib.hid (HOr.out.drewN nq)
          clear e0 e1 vc vk frk frc hHl2 hgl2 HHr HOr Hcell Hfro
          generalize wr.drewN nq = wq at z0 z1 z2 z3 z4 z5 HHr2 HOr2 ⊢
          go_quiet (with_reducible exact Calls.quiet_of_same (HD.out _))
          go_wp2
          go_region
          all_goals
            go_wp2
            go_roundw
            case rel =>
              refine ⟨2 * k + 1, swapL 0 l1 k (2 * k + 1), by go_num, by omega, by rw [swapL_length]; exact Hll.out, (List.Perm.cons _ (perm_swap 0 l1 k (2 * k + 1) (by omega) hlt3)).trans Hp.out, ?_, ?_⟩
              · have h := ((HHr2.out.drewN (nq + 1)).set hgH k v).set hgH (2 * k + 1) u
                unfold swapL
                rw [Hu.out, Hv.out]
                exact h
              · exact (((HOr2.out.drewN (nq + 1)).trans (Only.setCell _ ⟨g, k, none⟩ _ (fun k => k = g) rfl) HgT.out).trans (Only.setCell _ ⟨g, 2 * k + 1, none⟩ _ (fun k => k = g) rfl) HgT.out)
            case measure => simp only [intOf]; omega
        · have HD := Lib.hid (fun w0 => less_no hd w0)
          go_wp2
          go_quiet (fail)
          go_wp2
          have z0 : (wr.drewN nq).cell? ⟨H, 0, none⟩ = some (.slice (some ⟨g, 0, none⟩) n cap) := e0
          have z1 : (wr.drewN nq).cell? ⟨H, 1, none⟩ = some (.func (.func 69) #[] #[]) := e1
          have z2 : (wr.drewN nq).cell? ⟨g, 2 * k + 1, none⟩ = some (.int .i64 v) := vc
          have z3 : (wr.drewN nq).cell? ⟨g, k, none⟩ = some (.int .i64 u) := vk
          have z4 : (wr.drewN nq).frozen? ⟨g, k, none⟩ = false := frk
          have z5 : (wr.drewN nq).frozen? ⟨g, 2 * k + 1, none⟩ = false := frc
          have HHr2 := Lib.hid (HHr.out.drewN nq)
          have HOr2 := Lib.hid (HOr.out.drewN nq)
          clear e0 e1 vc vk frk frc hHl2 hgl2 HHr HOr Hcell Hfro
          generalize wr.drewN nq = wq at z0 z1 z2 z3 z4 z5 HHr2 HOr2 ⊢
          go_quiet (with_reducible exact Calls.quiet_of_same (HD.out _))
          go_wp2
          go_ret
          exact ⟨rfl, l1, Hp.out, HHr2.out.drewN _, HOr2.out.drewN _⟩
    · have i1 : (n : Int) ≤ (2 * (k : Int) + 1) := by omega
      clear hHr hOr hp hll
      go_wp2
      go_ret
      exact ⟨rfl, l1, Hp.out, HHr.out, HOr.out⟩
end Go.Proofs.YtomgcfjdmoefgaaDoor
