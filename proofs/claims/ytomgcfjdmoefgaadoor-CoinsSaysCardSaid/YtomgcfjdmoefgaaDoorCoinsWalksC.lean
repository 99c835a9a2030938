/- WALKS: the functions of package coins: what each computes. -/
import Derived.Test.YtomgcfjdmoefgaaDoorWithin
import Derived.Test.YtomgcfjdmoefgaaDoorSumPlain
import Derived.Test.YtomgcfjdmoefgaaDoorRows
import Derived.Test.YtomgcfjdmoefgaaDoorCoinsPlain
import Derived.Deep.OwnRows
import Derived.BigRegion
namespace Go.Proofs.YtomgcfjdmoefgaaDoor
open Go Go.RowKit CoinsPlain

theorem many_any (xs : List Int) (a : Option Addr) (cap : Nat) (w : World) (hx : Ints w a xs) (hs : SmallSum xs) (hl : xs.length ≤ 9223372036854775807) :
    Calls Tryd.prog 62 #[.slice a xs.length cap] w fun e w' => e = .returned (.int .i64 xs.sum) ∧ w = w' := by
  go_enter Tryd.func62, Tryd.ntmps62
  go_wp2
  go_loop [2, 7] (fun n i => ∃ k : Nat, k ≤ xs.length ∧ i = .int .i64 k ∧ n = .int .i64 (xs.take k).sum) (fun _ i => xs.length - (intOf i).toNat)
  case atStart => exact ⟨0, Nat.zero_le _, rfl, rfl⟩
  case round =>
    obtain ⟨k, hk, rfl, rfl⟩ := hrel
    by_cases hlt : k < xs.length
    · obtain ⟨b, off, rfl, hc⟩ := hx.open (by omega)
      have hck := hc k hlt
      have hb := hs (k + 1) (by omega)
      rw [sum_take xs k hlt] at hb
      clear hc
      generalize hv : xs.getD k 0 = v at hck hb
      have Hv := Lib.hid hv
      clear hv
      go_wp2
      all_goals
        go_round
        case rel => exact ⟨k + 1, by omega, by go_num, by rw [sum_take xs k hlt, Hv.out]⟩
        case measure => simp only [intOf]; omega
    · go_wp2
      go_ret
      exact ⟨ret_int (by rw [List.take_of_length_le (by omega)]), rfl⟩

/-- a new slice that reads as `xs`; nothing that was there has turned -/
def NewInts (E : TypeId) (xs : List Int) (w : World) (e : Ending) (w' : World) : Prop :=
  ∃ g, e = .returned (.slice (some ⟨g, 0, none⟩) xs.length xs.length) ∧ w.heap.size ≤ g ∧ Row w' g E xs ∧ Below w.heap.size w w'

theorem set_rep (j : Nat) (v : Int) (tail : List Int) : (List.replicate (j + 1) 0 ++ tail).set j v = List.replicate j 0 ++ (v :: tail) := by
  rw [List.replicate_succ', List.append_assoc, List.set_append_right _ _ (by simp)]
  simp

theorem greedy_any (c : List Int) (a : Option Addr) (cap : Nat) (s0 : Int) (w : World) (hx : Ints w a c) (hc : ∀ i, i < c.length → 1 ≤ c.getD i 0) (hl : c.length ≤ 6) (h0 : 0 ≤ s0) (h1 : s0 ≤ 300) :
    Calls Tryd.prog 63 #[.slice a c.length cap, .int .i64 s0] w fun e w' => NewInts 3 (grd c c.length s0) w e w' := by
  have hmk := fun w => run_make_row' (P := Tryd.prog) 22 3 (.int .i64 0) 8 Tryd.underlying22 (by kernel_rfl) rfl .i64 .i64 c.length (by omega) (by omega) w
  go_enter Tryd.func63, Tryd.ntmps63
  go_wp2
  go_loopw [1, 6] (fun s i wr => ∃ (sc ic : Int) (tail : List Int), s = .int .i64 sc ∧ i = .int .i64 ic ∧ -1 ≤ ic ∧ ic < c.length ∧ 0 ≤ sc ∧ sc ≤ 300 ∧
      Row wr w.heap.size 3 (List.replicate (ic + 1).toNat 0 ++ tail) ∧ (ic + 1).toNat + tail.length = c.length ∧ grd c c.length s0 = grd c (ic + 1).toNat sc ++ tail ∧ Below w.heap.size w wr)
    (fun _ i _ => (intOf i + 1).toNat)
  case atStart =>
    refine ⟨s0, _, [], rfl, rfl, by omega, by omega, by omega, by omega, ?_, ?_, ?_, (Below.refl _ _).alloc (Nat.le_refl _) _⟩
    · have := Row.made w 3 c.length
      have e : ((c.length : Int) - 1 + 1).toNat = c.length := by omega
      rw [e]; simpa using this
    · simp
    · have e : ((c.length : Int) - 1 + 1).toNat = c.length := by omega
      rw [e]; simp
  case round =>
    obtain ⟨sc, ic, tail, rfl, rfl, i1, i2, s1, s2, hrow, htl, hgr, hbel⟩ := hrel
    have Hgr := Lib.hid hgr
    clear hgr
    have Htl := Lib.hid htl
    clear htl
    by_cases hi : 0 ≤ ic
    · obtain ⟨j, rfl⟩ := Int.eq_ofNat_of_zero_le hi
      have hj : j < c.length := by omega
      obtain ⟨b, off, rfl, hcell⟩ := (hx.open (by omega))
      have hcj := hcell j hj
      have hbl : b < w.heap.size := by have := World.block_lt_of_cell? w _ hcj; exact this
      have hcj' : wr.cell? ⟨b, off + j, none⟩ = some (.int .i64 (c.getD j 0)) := by rw [hbel.cell (p := ⟨b, off + j, none⟩) hbl]; exact hcj
      have hc1 := hc j hj
      clear hcell hcj
      have ej : ((j : Int) + 1).toNat = j + 1 := by omega
      rw [ej] at hrow
      have ho := hrow.cell j (by simp; omega)
      have hf := hrow.free j
      obtain ⟨ov, ho⟩ : ∃ ov, wr.cell? ⟨w.heap.size, j, none⟩ = some ov := ⟨_, ho⟩
      generalize hv : c.getD j 0 = v at hcj' hc1
      have Hv := Lib.hid hv
      have Hej := Lib.hid ej
      clear hv ej
      have hne : ¬ b = w.heap.size := by omega
      go_wp2
      all_goals
        go_roundw
        case rel =>
          have e2 : ((j : Int) - 1 + 1).toNat = j := by omega
          refine ⟨_, _, sc / v :: tail, rfl, rfl, by omega, by omega, Int.emod_nonneg _ (by omega), ?_, ?_, ?_, ?_, hbel.setCell (Nat.le_refl _) _⟩
          · have := Int.emod_lt_of_pos sc (show 0 < v by omega); have := emod_le_self sc v s1 (by omega); omega
          · rw [e2, ← set_rep]; exact hrow.set j _
          · have := Htl.out; rw [Hej.out] at this; rw [e2, List.length_cons]; omega
          · have := Hgr.out; rw [Hej.out] at this; rw [e2, this]; simp only [grd, Hv.out]; simp
        case measure => simp only [intOf]; omega
    · have hn : ic = -1 := by omega
      subst hn
      go_wp2
      go_ret
      have e3 : ((-1 : Int) + 1).toNat = 0 := by decide
      have hg := Hgr.out
      rw [e3] at hg hrow
      simp only [grd, List.nil_append, List.replicate_zero] at hg hrow
      exact ⟨w.heap.size, by rw [grd_length]; rfl, Nat.le_refl _, by rw [hg]; exact hrow, hbel⟩

theorem F_bounds {c : List Int} (hc : OKc c) (m s : Nat) (h : s ≤ m) : 0 ≤ (fewL c m).getD s 0 ∧ (fewL c m).getD s 0 ≤ s := by
  rw [fewL_getD c m s h]; exact ⟨F_nonneg hc s, F_le_self c s⟩
theorem stepF_take (c few : List Int) (k s : Nat) (acc : Int) (hk : k < c.length) :
    stepF (c.take (k + 1)) few s acc = if c.getD k 0 ≤ (s : Int) then min (stepF (c.take k) few s acc) (few.getD (s - (c.getD k 0).toNat) 0 + 1) else stepF (c.take k) few s acc := by
  rw [take_succ_getD c k hk]
  simp only [stepF, List.foldl_append, List.foldl_cons, List.foldl_nil]
theorem stepF_nonneg {c : List Int} (hc : OKc c) (m k : Nat) : 0 ≤ stepF (c.take k) (fewL c m) (m + 1) ((m + 1 : Nat) : Int) := by
  rcases stepF_reach (c.take k) (fewL c m) (m + 1) ((m + 1 : Nat) : Int) with h | ⟨n, hn, hs, h⟩
  · omega
  · have h1 := hc.pos n (List.mem_of_mem_take hn)
    have := F_bounds hc m (m + 1 - n.toNat) (by omega)
    omega

theorem at_mid (l : List Int) (x : Int) (r : List Int) (i : Nat) (h : i = l.length) : (l ++ x :: r).getD i 0 = x := by
  subst h; simp
theorem at_low (l r : List Int) (i : Nat) (h : i < l.length) : (l ++ r).getD i 0 = l.getD i 0 := by
  rw [List.getD_eq_getElem?_getD, List.getD_eq_getElem?_getD, List.getElem?_append_left h]
theorem set_mid (l : List Int) (x y : Int) (r : List Int) (i : Nat) (h : i = l.length) : (l ++ x :: r).set i y = l ++ y :: r := by
  subst h; simp

theorem fewest_any (c : List Int) (a : Option Addr) (cap : Nat) (sum : Nat) (w : World) (hx : Ints w a c) (hc : OKc c) (hl : c.length ≤ 6) (h1 : sum ≤ 300) :
    Calls Tryd.prog 61 #[.slice a c.length cap, .int .i64 sum] w fun e w' => NewInts 3 (fewL c sum) w e w' := by
  have hmk := fun w => run_make_row' (P := Tryd.prog) 22 3 (.int .i64 0) 8 Tryd.underlying22 (by kernel_rfl) rfl .i64 .i64 (sum + 1) (by omega) (by omega) w
  have ec : ((sum + 1 : Nat) : Int) = (sum : Int) + 1 := by omega
  rw [ec] at hmk
  clear ec
  go_enter Tryd.func61, Tryd.ntmps61
  go_wp2
  go_loopw [6] (fun s wr => ∃ m : Nat, s = .int .i64 ((m : Int) + 1) ∧ m ≤ sum ∧ Row wr w.heap.size 3 (fewL c m ++ List.replicate (sum - m) 0) ∧ Below w.heap.size w wr)
    (fun s _ => (sum + 1 - intOf s).toNat)
  case atStart =>
    refine ⟨0, rfl, by omega, ?_, (Below.refl _ _).alloc (Nat.le_refl _) _⟩
    have := Row.made w 3 (sum + 1)
    rw [List.replicate_succ] at this
    simpa [fewL] using this
  case round =>
    obtain ⟨m, rfl, hm, hrow, hbel⟩ := hrel
    by_cases hms : m < sum
    · obtain ⟨r, hr⟩ : ∃ r, sum - m = r + 1 := ⟨sum - m - 1, by omega⟩
      rw [hr, List.replicate_succ] at hrow
      have ho : wr.cell? ⟨w.heap.size, m + 1, none⟩ = some (.int .i64 0) := by
        rw [hrow.cell (m + 1) (by simp [fewL_length])]
        rw [at_mid _ _ _ _ (fewL_length c m).symm]
      have hf := hrow.free (m + 1)
      have Hr := Lib.hid hr
      clear hr
      go_wp2
      obtain ⟨wo, rfl⟩ : ∃ wo : World, wo = wr := ⟨_, rfl⟩
      go_loopw [23] (fun i wi => ∃ k : Nat, i = .int .i64 k ∧ k ≤ c.length ∧ Row wi w.heap.size 3 (fewL c m ++ stepF (c.take k) (fewL c m) (m + 1) ((m + 1 : Nat) : Int) :: List.replicate r 0) ∧ Below w.heap.size w wi)
        (fun i _ => c.length - (intOf i).toNat)
      case atStart =>
        refine ⟨0, rfl, Nat.zero_le _, ?_, hbel.setCell (Nat.le_refl _) _⟩
        have := hrow.set (m + 1) ((m : Int) + 1)
        rw [set_mid _ _ _ _ _ (fewL_length c m).symm] at this
        exact this
      case round =>
        obtain ⟨k, rfl, hk, hrowi, hbeli⟩ := hrel
        by_cases hkl : k < c.length
        · obtain ⟨b, off, rfl, hcell⟩ := hx.open (by omega)
          have hck := hcell k hkl
          have hbl : b < w.heap.size := World.block_lt_of_cell? w _ hck
          rw [← hbeli.cell (p := ⟨b, off + k, none⟩) hbl] at hck
          have hn1 := hc.pos _ (Up.mem (c := c) k hkl)
          obtain ⟨n, hn⟩ := Int.eq_ofNat_of_zero_le (show 0 ≤ c.getD k 0 by omega)
          have hst := stepF_take c (fewL c m) k (m + 1) ((m + 1 : Nat) : Int) hkl
          have b1 := stepF_nonneg hc m k
          have b2 := stepF_le_acc (c.take k) (fewL c m) (m + 1) ((m + 1 : Nat) : Int)
          rw [hn] at hck hn1 hst
          clear hcell
          have Hn := Lib.hid hn
          clear hn
          have hcur := hrowi.cell (m + 1) (by simp [fewL_length])
          rw [at_mid _ _ _ _ (fewL_length c m).symm] at hcur
          have hfr := hrowi.free (m + 1)
          generalize hacc : stepF (c.take k) (fewL c m) (m + 1) ((m + 1 : Nat) : Int) = acc at hst b1 b2 hcur hrowi
          have Hacc := Lib.hid hacc
          clear hacc
          have Hst := Lib.hid hst
          clear hst
          by_cases hns : n ≤ m + 1
          · have hlow := hrowi.cell (m + 1 - n) (by simp [fewL_length]; omega)
            rw [at_low _ _ _ (by rw [fewL_length]; omega)] at hlow
            have b3 := F_bounds hc m (m + 1 - n) (by omega)
            generalize hv : (fewL c m).getD (m + 1 - n) 0 = v at hlow b3
            have Hv := Lib.hid hv
            clear hv
            have hne : ¬ b = w.heap.size := by omega
            have t1 : (n : Int) ≤ (m : Int) + 1 := by omega
            rcases Int.lt_or_le (v + 1) acc with hmin | hmin
            all_goals
              go_wp2
              go_region
              go_wp2
              go_roundw
              case rel =>
                refine ⟨k + 1, by go_num, by omega, ?_, (hbeli.setCell (Nat.le_refl _) _).drew⟩
                rw [Hst.out, if_pos (by omega), Int.toNat_natCast, Hv.out]
                first
                  | (rw [show min acc (v + 1) = v + 1 by omega]; have := hrowi.set (m + 1) (v + 1); rw [set_mid _ _ _ _ _ (fewL_length c m).symm] at this; exact this.drew)
                  | (rw [show min acc (v + 1) = acc by omega]; have := hrowi.set (m + 1) acc; rw [set_mid _ _ _ _ _ (fewL_length c m).symm] at this; exact this.drew)
              case measure => simp only [intOf]; omega
          · have t1 : ¬ (n : Int) ≤ (m : Int) + 1 := by omega
            go_wp2
            go_roundw
            case rel =>
              refine ⟨k + 1, by go_num, by omega, ?_, hbeli⟩
              rw [Hst.out, if_neg (by omega)]; exact hrowi
            case measure => simp only [intOf]; omega
        · have hkn : k = c.length := by omega
          subst hkn
          go_wp2
          go_roundw
          case rel =>
            refine ⟨m + 1, by go_num, by omega, ?_, hbeli⟩
            rw [show sum - (m + 1) = r by have := Hr.out; omega]
            simp only [fewL]
            rw [List.take_length] at hrowi
            rw [List.append_assoc]; exact hrowi
          case measure => simp only [intOf]; omega
    · have hms' : m = sum := by omega
      subst hms'
      go_wp2
      go_ret
      exact ⟨w.heap.size, by rw [fewL_length]; rfl, Nat.le_refl _, by simpa using hrow, hbel⟩
end Go.Proofs.YtomgcfjdmoefgaaDoor
