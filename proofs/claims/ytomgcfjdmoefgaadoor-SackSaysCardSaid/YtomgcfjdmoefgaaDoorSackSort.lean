/- WALKS: cmp.Compare, the closure that compares, slices.insertionSortCmpFunc, stableCmpFunc, SortStableFunc (up to 16). -/
import Derived.Test.YtomgcfjdmoefgaaDoorWithin
import Derived.Test.YtomgcfjdmoefgaaDoorGSortPlain
import Derived.BigRegion
import Derived.BigQuiet
namespace Go.Proofs.YtomgcfjdmoefgaaDoor
open Go Go.RowKit GSort
open SortPlain (asInts asInts_length asInts_at asInts_at1 asInts_swap split_last drop_range)

theorem isNaN_any (x : Int) (w : World) : Calls Tryd.prog 91 #[.int .i64 x] w fun e w' => e = .returned (.bool false) ∧ w = w' := by
  have h : (x != x) = false := by simp
  go_enter Tryd.func91, Tryd.ntmps91
  go_wp2
  go_ret
  exact ⟨rfl, rfl⟩
theorem compare_less (x y : Int) (h : x < y) (w : World) : Calls Tryd.prog 78 #[.int .i64 x, .int .i64 y] w fun e w' => e = .returned (.int .i64 (-1)) ∧ w = w' := by
  go_enter Tryd.func78, Tryd.ntmps78
  go_wp2_with fail
  refine (isNaN_any x w).mono ?_
  rintro e w' ⟨rfl, rfl⟩
  go_wp2_with fail
  refine (isNaN_any y w).mono ?_
  rintro e w' ⟨rfl, rfl⟩
  go_wp2
  go_ret
  exact ⟨rfl, rfl⟩
theorem compare_more (x y : Int) (h : y < x) (w : World) : Calls Tryd.prog 78 #[.int .i64 x, .int .i64 y] w fun e w' => e = .returned (.int .i64 1) ∧ w = w' := by
  go_enter Tryd.func78, Tryd.ntmps78
  go_wp2_with fail
  refine (isNaN_any x w).mono ?_
  rintro e w' ⟨rfl, rfl⟩
  go_wp2_with fail
  refine (isNaN_any y w).mono ?_
  rintro e w' ⟨rfl, rfl⟩
  go_wp2
  go_ret
  exact ⟨rfl, rfl⟩
theorem compare_same (x : Int) (w : World) : Calls Tryd.prog 78 #[.int .i64 x, .int .i64 x] w fun e w' => e = .returned (.int .i64 0) ∧ w = w' := by
  have h1 : decide (x < x) = false := by simp
  go_enter Tryd.func78, Tryd.ntmps78
  go_wp2_with fail
  refine (isNaN_any x w).mono ?_
  rintro e w' ⟨rfl, rfl⟩
  go_wp2_with fail
  refine (isNaN_any x w).mono ?_
  rintro e w' ⟨rfl, rfl⟩
  go_wp2
  go_ret
  exact ⟨rfl, rfl⟩

/-- what the closure does -/
structure Cmp (n : Nat) (Rl L : Nat → Nat → Prop) (CloP : World → Prop) (p : Nat) : Prop where
  less : ∀ (i j : Nat) (w : World), i < n → j < n → CloP w → L i j → Calls Tryd.prog 92 #[.int .i64 i, .int .i64 j, .pointer (some ⟨p, 0, none⟩)] w fun e w' => e = .returned (.int .i64 (-1)) ∧ ∃ m, w' = w.drewN m
  more : ∀ (i j : Nat), i < n → j < n → ¬ L i j → ∃ z : Int, 0 ≤ z ∧ ∀ w : World, CloP w → Calls Tryd.prog 92 #[.int .i64 i, .int .i64 j, .pointer (some ⟨p, 0, none⟩)] w fun e w' => e = .returned (.int .i64 z) ∧ ∃ m, w' = w.drewN m
  drew : ∀ w q, CloP w → CloP (w.drewN q)
  R1 : ∀ i j, L i j → Rl i j
  R2 : ∀ i j, j < i → ¬ L i j → Rl j i
  trans : ∀ a b c, Rl a b → Rl b c → Rl a c

/-- what the sort's loops keep -/
structure SortRel (g n : Nat) (w : World) (l : List Nat) (wr : World) : Prop where
  row : Row wr g 3 (asInts l)
  bel : Below g w wr
  len : l.length = n
theorem SortRel.drewN {g n : Nat} {w : World} {l : List Nat} {wr : World} (h : SortRel g n w l wr) (q : Nat) : SortRel g n w l (wr.drewN q) :=
  ⟨h.row.drewN q, drewN_below h.bel q, h.len⟩

set_option maxHeartbeats 2000000 in
theorem insertion_any (n : Nat) (Rl L : Nat → Nat → Prop) (CloP : World → Prop) (p g : Nat) (w : World) (C : Cmp n Rl L CloP p) (hs : n ≤ 16) (hclo : ∀ w', Below g w w' → CloP w')
    (hrow : Row w g 3 (asInts (List.range n))) :
    Calls Tryd.prog 99 #[.slice (some ⟨g, 0, none⟩) n n, .int .i64 0, .int .i64 n, .func (.func 92) #[] #[.pointer (some ⟨p, 0, none⟩)]] w
      fun e w' => ∃ l, e = .returned (.tuple #[]) ∧ Falls Rl n l ∧ Row w' g 3 (asInts l) ∧ Below g w w' := by
  have Hclo := Lib.hid hclo
  have HCm := Lib.hid C
  clear hclo C
  rcases Nat.lt_or_ge n 2 with h2 | h2
  · have h1 : decide ((1 : Int) < ((n : Nat) : Int)) = false := by simp; omega
    have hF : Falls Rl n (List.range n) := by
      rcases Nat.lt_or_ge n 1 with h | h
      · rw [show n = 0 by omega]; exact Falls.zero
      · rw [show n = 1 by omega]; exact Falls.one
    have HF := Lib.hid hF
    clear hF h2
    go_enter Tryd.func99, Tryd.ntmps99
    go_wp2
    refine wp_loop_rounds 1 ?_
    rw [rounds_succ]
    go_wp2
    go_end0
    exact ⟨_, rfl, HF.out, hrow, Below.refl _ _⟩
  · go_enter Tryd.func99, Tryd.ntmps99
    go_wp2
    go_loopw [8] (fun idx wr => ∃ (i : Nat) (S : List Nat), idx = .int .i64 i ∧ 1 ≤ i ∧ i ≤ n ∧ Falls Rl i S ∧ SortRel g n w (S ++ (List.range n).drop i) wr)
      (fun i _ => n - (intOf i).toNat)
    case atStart =>
      refine ⟨1, [0], rfl, Nat.le_refl _, by omega, Falls.one, ?_, Below.refl _ _, by simp; omega⟩
      have e : [0] ++ (List.range n).drop 1 = List.range n := by
        have := drop_range n 0 (by omega)
        simpa using this.symm
      rw [e]; exact hrow
    case round =>
      obtain ⟨i, S, rfl, hi1, hin, hF, R⟩ := hrel
      rcases Nat.lt_or_ge i n with hlt | hge
      · have hil : ((i : Nat) : Int) < ((n : Nat) : Int) := by omega
        have hSl := hF.length
        rw [drop_range _ _ hlt] at R
        have HF := Lib.hid hF
        have HS := Lib.hid hSl
        clear hF hSl
        generalize hrest : (List.range n).drop (i + 1) = rest at R
        have Hrest := Lib.hid hrest
        clear hrest
        have hlen := R.len
        have HR := Lib.hid R
        clear R
        go_wp2
        go_loopw [9] (fun idx wx => ∃ (A B : List Nat), idx = .int .i64 A.length ∧ A ++ B = S ∧ (∀ y ∈ B, Rl i y) ∧ SortRel g n w (A ++ i :: (B ++ rest)) wx) (fun j _ => (intOf j).toNat)
        case atStart => exact ⟨S, [], by rw [HS.out], by simp, fun y hy => absurd hy (by simp), by simpa using HR.out⟩
        case round =>
          obtain ⟨A, B, rfl, hAB, hB, R⟩ := hrel
          have HB := Lib.hid hB
          have HAB := Lib.hid hAB
          clear hB hAB
          by_cases hA : A = []
          · subst hA
            have hfin : Falls Rl (i + 1) ([] ++ i :: B) := Falls.step (A := []) (by rw [HAB.out]; exact HF.out) (fun y hy => absurd hy (by simp)) HB.out
            have Hfin := Lib.hid hfin
            have HR2 := Lib.hid R
            clear hfin R
            rw [show (((([] : List Nat).length) : Nat) : Int) = 0 from rfl]
            go_wp2
            go_quiet (fail)
            go_wp2
            go_roundw
            case rel =>
              refine ⟨i + 1, _, by go_num, by omega, by omega, Hfin.out, ?_⟩
              rw [Hrest.out]
              have := HR2.out.drewN nq
              simpa using this
            case measure => simp only [intOf]; omega
          · obtain ⟨A', y, rfl⟩ := split_last A hA
            have hy : y < i := HF.out.lt y (by rw [← HAB.out]; simp)
            have hyn : y < n := by omega
            have hkl : A'.length + 1 < n := by have := R.len; simp at this; omega
            have eL : (A' ++ [y]) ++ i :: (B ++ rest) = A' ++ y :: i :: (B ++ rest) := by simp
            rw [eL] at R
            have c1 := R.row.cell (A'.length + 1) (by rw [asInts_length, R.len]; have := R.len; simp at this; omega)
            have c0 := R.row.cell A'.length (by rw [asInts_length, R.len]; omega)
            rw [asInts_at1] at c1
            rw [asInts_at] at c0
            have f1 := R.row.free (A'.length + 1)
            have f0 := R.row.free A'.length
            have hcl := Hclo.out _ R.bel
            have hswap := R.row
            have Hswap := Lib.hid hswap
            have Hbel := Lib.hid R.bel
            have Hlen := Lib.hid R.len
            clear R eL hswap hA
            rw [show (A' ++ [y]).length = A'.length + 1 by simp]
            generalize hk : A'.length = k at c1 c0 f1 f0 hkl ⊢
            have Hk := Lib.hid hk
            clear hk
            have hg : (0 : Int) < (k : Int) + 1 := by omega
            have hkI : (k : Int) + 1 < ((n : Nat) : Int) := by omega
            have hkI' : (k : Int) < ((n : Nat) : Int) := by omega
            by_cases hlt2 : L i y
            · have hC : ∀ q, Calls Tryd.prog 92 #[.int .i64 i, .int .i64 y, .pointer (some ⟨p, 0, none⟩)] (wr.drewN q) fun e w' => e = .returned (.int .i64 (-1)) ∧ ∃ m, w' = (wr.drewN q).drewN m := fun q => HCm.out.less i y (wr.drewN q) hlt hyn (HCm.out.drew _ q hcl) hlt2
              have HC := Lib.hid hC
              have Hlt2 := Lib.hid hlt2
              clear hC hcl hlt2
              go_wp2
              go_quiet (with_reducible exact Calls.quiet_of (HC.out _))
              go_wp2
              go_region
              all_goals
                go_wp2
                go_roundw
                case rel =>
                  refine ⟨A', y :: B, by rw [Hk.out], by rw [← HAB.out]; simp, fun z hz => ?_, ?_⟩
                  · rcases List.mem_cons.1 hz with e | e
                    · subst e; exact HCm.out.R1 _ _ Hlt2.out
                    · exact HB.out z e
                  · refine ⟨?_, ?_, by have := Hlen.out; simp only [List.length_append, List.length_cons] at this ⊢; omega⟩
                    · have h1 := ((Hswap.out.drewN (nq + 1)).set (k + 1) (y : Int)).set k (i : Int)
                      rw [← Hk.out, asInts_swap] at h1
                      rw [← Hk.out]
                      simpa using h1
                    · exact ((drewN_below Hbel.out (nq + 1)).setCell (p := ⟨g, k + 1, none⟩) (Nat.le_refl _) _).setCell (p := ⟨g, k, none⟩) (Nat.le_refl _) _
                case measure => simp only [intOf]; omega
            · obtain ⟨z, hz, hC⟩ := HCm.out.more i y hlt hyn hlt2
              have hC' : ∀ q, Calls Tryd.prog 92 #[.int .i64 i, .int .i64 y, .pointer (some ⟨p, 0, none⟩)] (wr.drewN q) fun e w' => e = .returned (.int .i64 z) ∧ ∃ m, w' = (wr.drewN q).drewN m := fun q => hC (wr.drewN q) (HCm.out.drew _ q hcl)
              have hby : Rl y i := HCm.out.R2 i y hy hlt2
              have hfin : Falls Rl (i + 1) ((A' ++ [y]) ++ i :: B) := Falls.step (by rw [HAB.out]; exact HF.out) (all_before HCm.out.trans (by have := HF.out.sorted; rw [← HAB.out] at this; exact (List.pairwise_append.1 this).1) hby) HB.out
              have HC := Lib.hid hC'
              have Hfin := Lib.hid hfin
              clear hC hC' hcl hlt2 hby hfin
              go_wp2
              go_quiet (with_reducible exact Calls.quiet_of (HC.out _))
              go_wp2
              go_roundw
              case rel =>
                refine ⟨i + 1, _, by go_num, by omega, by omega, Hfin.out, ?_⟩
                rw [Hrest.out]
                have e : (A' ++ [y]) ++ i :: B ++ rest = A' ++ y :: i :: (B ++ rest) := by simp
                rw [e]
                exact ⟨Hswap.out, drewN_below Hbel.out _, Hlen.out⟩
              case measure => simp only [intOf]; omega
      · obtain rfl : n = i := by omega
        have h3 : decide (n < n) = false := by simp
        have HF := Lib.hid hF
        have HR := Lib.hid R
        clear hF R
        go_wp2
        go_end0
        refine ⟨S, rfl, HF.out, ?_, HR.out.bel⟩
        have := HR.out.row
        rw [List.drop_of_length_le (by simp)] at this
        simpa using this

theorem stable_any (n : Nat) (Rl L : Nat → Nat → Prop) (CloP : World → Prop) (p g : Nat) (w : World) (C : Cmp n Rl L CloP p) (hs : n ≤ 16) (hclo : ∀ w', Below g w w' → CloP w')
    (hrow : Row w g 3 (asInts (List.range n))) :
    Calls Tryd.prog 90 #[.slice (some ⟨g, 0, none⟩) n n, .int .i64 n, .func (.func 92) #[] #[.pointer (some ⟨p, 0, none⟩)]] w
      fun e w' => ∃ l, e = .returned (.tuple #[]) ∧ Falls Rl n l ∧ Row w' g 3 (asInts l) ∧ Below g w w' := by
  have h1 : decide ((20 : Int) ≤ ((n : Nat) : Int)) = false := by simp; omega
  have h2 : decide ((20 : Int) < ((n : Nat) : Int)) = false := by simp; omega
  have I := insertion_any n Rl L CloP p g w C hs hclo hrow
  clear hs C
  go_enter Tryd.func90, Tryd.ntmps90
  go_wp2
  refine wp_loop_rounds 1 ?_
  rw [rounds_succ]
  go_wp2_with fail
  refine I.mono ?_
  rintro e w1 ⟨l, rfl, hF, h3, h4⟩
  go_wp2
  refine wp_loop_rounds 1 ?_
  rw [rounds_succ]
  go_wp2
  go_end0
  exact ⟨l, rfl, hF, h3, h4⟩
theorem sortStable_any (n : Nat) (Rl L : Nat → Nat → Prop) (CloP : World → Prop) (p g : Nat) (w : World) (C : Cmp n Rl L CloP p) (hs : n ≤ 16) (hclo : ∀ w', Below g w w' → CloP w')
    (hrow : Row w g 3 (asInts (List.range n))) :
    Calls Tryd.prog 76 #[.slice (some ⟨g, 0, none⟩) n n, .func (.func 92) #[] #[.pointer (some ⟨p, 0, none⟩)]] w
      fun e w' => ∃ l, e = .returned (.tuple #[]) ∧ Falls Rl n l ∧ Row w' g 3 (asInts l) ∧ Below g w w' := by
  have I := stable_any n Rl L CloP p g w C hs hclo hrow
  go_enter Tryd.func76, Tryd.ntmps76
  go_wp2_with fail
  refine I.mono ?_
  rintro e w1 ⟨l, rfl, hF, h3, h4⟩
  go_wp2
  go_end0
  exact ⟨l, rfl, hF, h3, h4⟩
end Go.Proofs.YtomgcfjdmoefgaaDoor
