/- WALKS: share.Load: what it computes. -/
import Derived.Test.YtomgcfjdmoefgaaDoorShareWalks2
namespace Go.Proofs.YtomgcfjdmoefgaaDoor
open Go Go.RowKit SharePlain PackPlain ShareLaw

def loadsA (times on : List Int) (m k : Nat) : List Int := (List.range m).map fun c : Nat => loadA times on k c
theorem loadsA_length (times on : List Int) (m k : Nat) : (loadsA times on m k).length = m := by simp [loadsA]
theorem loadsA_getD (times on : List Int) (m k c : Nat) (h : c < m) : (loadsA times on m k).getD c 0 = loadA times on k c := by
  simp [loadsA, List.getD_eq_getElem?_getD, h]
theorem loadsA_set (times on : List Int) (m k c : Nat) (hc : on.getD k 0 = c) (h : c < m) : (loadsA times on m k).set c (loadA times on k c + times.getD k 0) = loadsA times on m (k + 1) := by
  apply list_eq_of_getD
  · simp [loadsA]
  · intro j hj
    rw [List.length_set, loadsA_length] at hj
    rw [loadsA_getD _ _ _ _ _ hj, loadA_succ, hc]
    by_cases e : c = j
    · subst e
      rw [ShareLaw.getD_set_eq _ _ _ (by rw [loadsA_length]; exact h), if_pos rfl]
    · rw [ShareLaw.getD_set_ne _ _ _ _ e, loadsA_getD _ _ _ _ _ hj, if_neg (by omega), Int.add_zero]
theorem loadsA_end (times on : List Int) (m : Nat) : loadsA times on m times.length = loads times on m := by
  unfold loadsA loads loadOf loadA
  exact List.map_congr_left fun c _ => loadL_perm _ _ _ (revRange_perm _)
theorem loadsA_zero (times on : List Int) (m : Nat) : loadsA times on m 0 = List.replicate m 0 := by
  apply list_eq_of_getD
  · simp [loadsA]
  · intro j hj
    rw [loadsA_length] at hj
    rw [loadsA_getD _ _ _ _ _ hj]
    simp [loadA, revRange, loadL, List.getD_eq_getElem?_getD, hj]

structure LoadRes (times : List Int) (m : Nat) (on : List Int) (n er : Int) : Prop where
  good : er = 0 ↔ OnOk times m on
  long : er = 0 → n = longOf times on m
  none : er ≠ 0 → n = 0
  code : er ≠ 0 → er = if on.length = times.length then 1 else 3

structure LoadRel (times on : List Int) (m : Nat) (w : World) (k : Nat) (wr : World) : Prop where
  hk : k ≤ times.length
  row : Row wr w.heap.size 3 (loadsA times on m k)
  box : ∀ i, i < k → 0 ≤ on.getD i 0 ∧ on.getD i 0 < m
  bel : Below w.heap.size w wr

set_option maxHeartbeats 1000000 in
theorem Load_any (times on : List Int) (m : Nat) (a b : Option Addr) (cap cap' : Nat) (w : World) (hx : Ints w a times) (hy : Ints w b on) (hf : Fine times m) (hl : on.length ≤ 9223372036854775807) :
    Calls Tryd.prog 54 #[.slice a times.length cap, .int .i64 m, .slice b on.length cap'] w fun e w' => ∃ n er, e = .returned (.tuple #[.int .i64 n, errV 81 er]) ∧ LoadRes times m on n er ∧ Below w.heap.size w w' := by
  have hs := hf.short
  have r1 := hf.r1
  have r2 := hf.r2
  have hchk := fun w0 (h : Ints w0 a times) => check_yes times m a cap w0 h (by omega) (fine_chk hf)
  by_cases hlen : on.length = times.length
  · have hne0 : ((on.length : Int) != (times.length : Int)) = false := by simp [hlen]
    have hmk2 := fun w => run_make_row' (P := Tryd.prog) 22 3 (.int .i64 0) 8 Tryd.underlying22 (by kernel_rfl) rfl .i64 .i64 m (by omega) (by omega) w
    have Hlen := Lib.hid hlen
    clear hlen
    go_enter Tryd.func54, Tryd.ntmps54
    go_wp2_with fail
    refine (hchk _ hx).mono ?_
    rintro e w1 ⟨rfl, rfl⟩
    go_wp2
    go_loopw [28] (fun idx wr => ∃ k : Nat, idx = .int .i64 k ∧ LoadRel times on m w k wr) (fun i _ => on.length - (intOf i).toNat)
    case atStart =>
      refine ⟨0, rfl, Nat.zero_le _, ?_, by omega, (Below.refl _ _).alloc (Nat.le_refl _) _⟩
      rw [loadsA_zero]; exact Row.made w 3 m
    case round =>
      obtain ⟨k, rfl, R⟩ := hrel
      rcases Nat.lt_or_ge k on.length with hlt | hge
      · have hks : k < times.length := by rw [← Hlen.out]; exact hlt
        obtain ⟨bb, off, rfl, hcs⟩ := hx.open (by omega)
        obtain ⟨bi, offi, rfl, hci⟩ := hy.open (by omega)
        have hck := hcs k hks
        have hik := hci k hlt
        have h1 : bb < w.heap.size := World.block_lt_of_cell? w _ hck
        have h2 : bi < w.heap.size := World.block_lt_of_cell? w _ hik
        rw [← R.bel.cell (p := ⟨bb, off + k, none⟩) h1] at hck
        rw [← R.bel.cell (p := ⟨bi, offi + k, none⟩) h2] at hik
        clear hcs hci
        have hsk := hf.all _ (getD_mem times k hks)
        have htot := (take_sum_le times hf.nonneg k).2
        have hsum := hf.sum
        have hpos := fun c : Nat => loadA_nonneg times on (fun n hn => (hf.all n hn).1) k c (by omega)
        have HR := Lib.hid R
        have hbox := R.box
        have Hbox := Lib.hid hbox
        clear R hbox
        generalize hkk : on.getD k 0 = kk at hik
        have Hkk := Lib.hid hkk
        clear hkk
        have hbad : ∀ {n : Int}, (kk < 0 ∨ (m : Int) ≤ kk) → ¬ OnOk times m on := fun h P => by
          have := P.box k hks; rw [Hkk.out] at this; omega
        rcases Int.lt_or_le kk 0 with hk0 | hk0
        · generalize hss : times.getD k 0 = ss at hck hsk
          go_wp2_with fail
          refine (within_no _ _ _ (Or.inl hk0) _).mono ?_
          rintro e w2 ⟨rfl, rfl⟩
          go_wp2
          go_ret2
          exact ⟨0, 1, rfl, ⟨⟨by omega, fun P => absurd P (hbad (n := 0) (Or.inl hk0))⟩, by omega, fun _ => rfl, fun _ => by rw [if_pos Hlen.out]⟩, HR.out.bel⟩
        rcases Int.lt_or_le ((m : Int) - 1) kk with hk1 | hk1
        · generalize hss : times.getD k 0 = ss at hck hsk
          go_wp2_with fail
          refine (within_no _ _ _ (Or.inr hk1) _).mono ?_
          rintro e w2 ⟨rfl, rfl⟩
          go_wp2
          go_ret2
          exact ⟨0, 1, rfl, ⟨⟨by omega, fun P => absurd P (hbad (n := 0) (Or.inr (by omega)))⟩, by omega, fun _ => rfl, fun _ => by rw [if_pos Hlen.out]⟩, HR.out.bel⟩
        clear hbad
        obtain ⟨c, rfl⟩ : ∃ c : Nat, kk = c := ⟨kk.toNat, by omega⟩
        have hcm : c < m := by omega
        have lk := HR.out.row.cell c (by rw [loadsA_length]; exact hcm)
        have lf := HR.out.row.free c
        rw [loadsA_getD _ _ _ _ _ hcm] at lk
        have hpc := hpos c
        have hset := loadsA_set times on m k c Hkk.out hcm
        have hlt2 := HR.out.row.lt
        have hbel := HR.out.bel
        have Hset := Lib.hid hset
        have Hbel := Lib.hid hbel
        clear hset hpos hbel
        generalize hss : times.getD k 0 = ss at hck hsk
        generalize hld : loadA times on k c = ld at lk hpc
        have Hss := Lib.hid hss
        have Hld := Lib.hid hld
        clear hss hld
        go_wp2_with fail
        refine (within_yes _ _ _ hk0 hk1 _).mono ?_
        rintro e w2 ⟨rfl, rfl⟩
        have hne1 : ¬ bb = w.heap.size := by omega
        go_wp2
        go_region
        go_wp2
        go_roundw
        case rel =>
          refine ⟨k + 1, by go_num, by omega, ?_, fun i hi => ?_, (Hbel.out.setCell (p := ⟨w.heap.size, c, none⟩) (Nat.le_refl _) _).drew⟩
          · rw [← Hset.out, Hld.out, Hss.out]; exact (HR.out.row.set c _).drew
          · rcases Nat.lt_or_ge i k with h | h
            · exact Hbox.out i h
            · have : i = k := by omega
              subst this; rw [Hkk.out]; omega
        case measure => simp only [intOf]; omega
      · have hkn : k = times.length := by have := R.hk; have := Hlen.out; omega
        subst hkn
        have hrow := R.row
        rw [loadsA_end] at hrow
        have hlen2 : (loads times on m).length = m := by simp [loads]
        have hM := Max_any (loads times on m) (some ⟨w.heap.size, 0, none⟩) m wr hrow.ints (by omega) (by omega)
        rw [hlen2] at hM
        have HR := Lib.hid R
        clear R hrow hlen2
        have h3 : decide (times.length < on.length) = false := by have := Hlen.out; simp; omega
        go_wp2_with fail
        refine hM.mono ?_
        rintro e w2 ⟨⟨v, rfl, hv⟩, rfl⟩
        have hv2 := isMax_eq hv
        clear hv hM
        have Hv2 := Lib.hid hv2
        clear hv2
        go_wp2
        go_ret2
        exact ⟨v, 0, rfl, ⟨⟨fun _ => ⟨Hlen.out, HR.out.box⟩, fun _ => rfl⟩, fun _ => Hv2.out, fun h => absurd rfl h, fun h => absurd rfl h⟩, HR.out.bel⟩
  · have hne0 : ((on.length : Int) != (times.length : Int)) = true := by simp; omega
    have Hlen := Lib.hid hlen
    clear hlen
    go_enter Tryd.func54, Tryd.ntmps54
    go_wp2_with fail
    refine (hchk _ hx).mono ?_
    rintro e w1 ⟨rfl, rfl⟩
    go_wp2
    go_ret2
    exact ⟨0, 3, rfl, ⟨⟨by omega, fun P => absurd P.len Hlen.out⟩, by omega, fun _ => rfl, fun _ => by rw [if_neg Hlen.out]⟩, Below.refl _ _⟩
theorem Load_no (times : List Int) (mach : Int) (a b : Option Addr) (cap n' cap' : Nat) (w : World) (hx : Ints w a times) (hl : times.length ≤ 9223372036854775807) (h : chk times mach ≠ 0) :
    Calls Tryd.prog 54 #[.slice a times.length cap, .int .i64 mach, .slice b n' cap'] w fun e w' => e = .returned (.tuple #[.int .i64 0, .iface 81 (.int .i64 (chk times mach))]) ∧ w = w' := by
  go_enter Tryd.func54, Tryd.ntmps54
  go_wp2_with fail
  refine (check_no times mach a cap _ hx hl h).mono ?_
  rintro e w1 ⟨rfl, rfl⟩
  go_wp2
  go_ret2
  exact ⟨rfl, rfl⟩
end Go.Proofs.YtomgcfjdmoefgaaDoor
