/- WALKS: the document's Coins, Greedy, Fewest, Total, Best, Always. -/
import Derived.Test.YtomgcfjdmoefgaaDoorCoinsWalks4C
import Derived.Test.YtomgcfjdmoefgaaDoorRefCoinsPlain
namespace Go.Proofs.YtomgcfjdmoefgaaDoor
open Go Go.RowKit CoinsPlain

theorem r5in_yes (n lo hi : Int) (h1 : lo ≤ n) (h2 : n ≤ hi) (w : World) : Calls Tryd.prog 57 #[.int .i64 n, .int .i64 lo, .int .i64 hi] w fun e w' => e = .returned (.bool true) ∧ w = w' := by
  go_enter Tryd.func57, Tryd.ntmps57
  go_wp2
  go_ret
  exact ⟨rfl, rfl⟩
theorem r5in_no (n lo hi : Int) (h : n < lo ∨ hi < n) (w : World) : Calls Tryd.prog 57 #[.int .i64 n, .int .i64 lo, .int .i64 hi] w fun e w' => e = .returned (.bool false) ∧ w = w' := by
  rcases Int.lt_or_le n lo with h1 | h1
  · clear h
    go_enter Tryd.func57, Tryd.ntmps57
    go_wp2
    go_ret
    exact ⟨rfl, rfl⟩
  · have h2 : hi < n := by omega
    have h3 : decide (n ≤ hi) = false := decide_eq_false (by omega)
    clear h
    go_enter Tryd.func57, Tryd.ntmps57
    go_wp2
    go_ret
    exact ⟨rfl, rfl⟩

/-! ### Coins -/
theorem rcoins_any (c : List Int) (a : Option Addr) (cap : Nat) (w : World) (hx : Ints w a c) (hl : c.length ≤ 9223372036854775807) :
    Calls Tryd.prog 18 #[.slice a c.length cap] w fun e w' => e = .returned (.int .i64 (chk c)) ∧ ∃ q, w' = w.drewN q := by
  by_cases h0 : c.length = 0
  · have e : chk c = 5 := by simp [chk, h0]
    rw [e]
    clear e
    have hz : c = [] := List.eq_nil_of_length_eq_zero h0
    subst hz
    clear h0
    go_enter Tryd.func18, Tryd.ntmps18
    go_wp2
    go_ret
    exact ⟨rfl, 0, rfl⟩
  have h1 : 0 < c.length := by omega
  clear h0
  have h2 : ((c.length : Int) == 0) = false := by rw [beq_eq_false_iff_ne]; omega
  by_cases h6 : 6 < c.length
  · have e : chk c = 4 := by simp only [chk]; rw [if_neg (by omega), if_pos h6]
    rw [e]
    clear e
    have h6' : (6 : Int) < c.length := by omega
    go_enter Tryd.func18, Tryd.ntmps18
    go_wp2
    go_ret
    exact ⟨rfl, 0, rfl⟩
  have e : chk c = chkL none c := by simp only [chk]; rw [if_neg (by omega), if_neg h6]
  rw [e]
  clear e
  have h6' : (c.length : Int) ≤ 6 := by omega
  clear h6
  go_enter Tryd.func18, Tryd.ntmps18
  go_wp2
  go_loopw [3] (fun i wr => ∃ k : Nat, k ≤ c.length ∧ i = .int .i64 k ∧ chkL none c = chkL (prevO c k) (c.drop k) ∧ ∃ q, wr = w.drewN q) (fun i _ => c.length - (intOf i).toNat)
  case atStart => exact ⟨0, Nat.zero_le _, rfl, rfl, 0, rfl⟩
  case round =>
    obtain ⟨k, hk, rfl, hch, q, rfl⟩ := hrel
    rcases Nat.lt_or_ge k c.length with hlt | hge
    · obtain ⟨b, off, rfl, hc⟩ := hx.open h1
      have hck := hc k hlt
      rw [drop_getD c k hlt] at hch
      simp only [chkL] at hch
      have hcp := hc (k - 1) (by omega)
      clear hc
      have hpv : 0 < k → prevO c k = some (c.getD (k - 1) 0) := fun h => by cases k with | zero => omega | succ k => rfl
      generalize hv : c.getD k 0 = v at hck hch
      have Hv := Lib.hid hv
      clear hv
      generalize hu : c.getD (k - 1) 0 = u at hcp hpv
      have Hu := Lib.hid hu
      clear hu
      by_cases hr : v < 1 ∨ 60 < v
      · rw [if_pos hr] at hch
        have Hch := Lib.hid hch
        clear hch hpv
        have Hr := Lib.hid hr
        clear hr
        go_wp2_with (go_at_call 57; refine (r5in_no v 1 60 Hr.out _).mono ?_; rintro e w' ⟨rfl, rfl⟩)
        go_ret
        exact ⟨by rw [Hch.out]; rfl, q, rfl⟩
      · rw [if_neg hr] at hch
        have v1 : 1 ≤ v := by omega
        have v2 : v ≤ 60 := by omega
        clear hr
        by_cases hk0 : k = 0
        · subst hk0
          clear hpv hcp
          rw [Nat.add_zero] at hck
          by_cases hv1 : v = 1
          · subst hv1
            have hch' : chkL none c = chkL (some 1) (c.drop 1) := by simpa [prevO, badNext] using hch
            have Hch := Lib.hid hch'
            clear hch hch'
            go_wp2_with (go_at_call 57; refine (r5in_yes 1 1 60 (by omega) (by omega) _).mono ?_; rintro e w' ⟨rfl, rfl⟩)
            go_quiet (fail)
            go_wp2
            go_roundw
            case rel => exact ⟨1, by omega, by go_num, by rw [Hch.out]; simp only [prevO, Hv.out], _, by first | rfl | rw [World.drewN_drewN]⟩
            case measure => simp only [intOf]; omega
          · have hch' : chkL none c = 3 := by simpa [prevO, badNext, hv1] using hch
            have Hch := Lib.hid hch'
            clear hch hch'
            have t1 : (v == 1) = false := by rw [beq_eq_false_iff_ne]; exact hv1
            have t2 : (v != 1) = true := by rw [bne_iff_ne]; exact hv1
            clear hv1
            go_wp2_with (go_at_call 57; refine (r5in_yes v 1 60 v1 v2 _).mono ?_; rintro e w' ⟨rfl, rfl⟩)
            go_quiet (fail)
            go_wp2
            go_ret
            exact ⟨by rw [Hch.out]; rfl, _, by first | rfl | rw [World.drewN_drewN]⟩
        · have hk1 : 0 < k := by omega
          have t1 : ((k : Int) == 0) = false := by rw [beq_eq_false_iff_ne]; omega
          have t2 : (0 : Int) < k := by omega
          clear hk0
          rw [hpv hk1] at hch
          clear hpv
          rcases Int.lt_or_le u v with huv | huv
          · have hch' : chkL none c = chkL (some v) (c.drop (k + 1)) := by simpa [badNext, Int.not_le.2 huv] using hch
            have Hch := Lib.hid hch'
            clear hch hch'
            go_wp2_with (go_at_call 57; refine (r5in_yes v 1 60 v1 v2 _).mono ?_; rintro e w' ⟨rfl, rfl⟩)
            go_quiet (fail)
            go_wp2
            go_roundw
            case rel => exact ⟨k + 1, by omega, by go_num, by rw [Hch.out]; simp only [prevO, Hv.out], _, by first | rfl | rw [World.drewN_drewN]⟩
            case measure => simp only [intOf]; omega
          · have hch' : chkL none c = 3 := by simpa [badNext, huv] using hch
            have Hch := Lib.hid hch'
            clear hch hch'
            go_wp2_with (go_at_call 57; refine (r5in_yes v 1 60 v1 v2 _).mono ?_; rintro e w' ⟨rfl, rfl⟩)
            go_quiet (fail)
            go_wp2
            go_ret
            exact ⟨by rw [Hch.out]; rfl, _, by first | rfl | rw [World.drewN_drewN]⟩
    · have hkn : k = c.length := by omega
      subst hkn
      rw [List.drop_length] at hch
      have Hch := Lib.hid hch
      clear hch
      go_wp2
      go_ret
      exact ⟨by rw [Hch.out]; rfl, q, rfl⟩

/-! ### Greedy -/
theorem set_mid0 (j : Nat) (u v : Int) (tail : List Int) : (List.replicate j 0 ++ u :: tail).set j v = List.replicate j 0 ++ v :: tail := by
  rw [List.set_append_right _ _ (by simp)]; simp
theorem get_mid0 (j : Nat) (u : Int) (tail : List Int) : (List.replicate j 0 ++ u :: tail).getD j 0 = u := by
  rw [List.getD_eq_getElem?_getD, List.getElem?_append_right (by simp)]; simp
set_option maxRecDepth 100000 in
set_option maxHeartbeats 1000000 in
theorem rgreedy_any (c : List Int) (a : Option Addr) (cap : Nat) (s0 : Int) (w : World) (hx : Ints w a c) (hc : ∀ i, i < c.length → 1 ≤ c.getD i 0) (hl : c.length ≤ 6) (h0 : 0 ≤ s0) (h1 : s0 ≤ 300) :
    Calls Tryd.prog 22 #[.slice a c.length cap, .int .i64 s0] w fun e w' => NewInts 3 (grd c c.length s0) w e w' := by
  have hmk := fun w => run_make_row' (P := Tryd.prog) 22 3 (.int .i64 0) 8 Tryd.underlying22 (by kernel_rfl) rfl .i64 .i64 c.length (by omega) (by omega) w
  go_enter Tryd.func22, Tryd.ntmps22
  go_wp2
  go_loopw [1, 6] (fun s i wr => ∃ (sc ic : Int) (tail : List Int), s = .int .i64 sc ∧ i = .int .i64 ic ∧ -1 ≤ ic ∧ ic < c.length ∧ 0 ≤ sc ∧ sc ≤ 300 ∧
      Row wr w.heap.size 3 (List.replicate (ic + 1).toNat 0 ++ tail) ∧ (ic + 1).toNat + tail.length = c.length ∧ grd c c.length s0 = grd c (ic + 1).toNat sc ++ tail ∧ Below w.heap.size w wr)
    (fun _ i _ => (intOf i + 1).toNat)
  case atStart =>
    refine ⟨s0, _, [], rfl, rfl, by omega, by omega, by omega, by omega, ?_, ?_, ?_, (Below.refl _ _).alloc (Nat.le_refl _) _⟩
    · have := Row.made w 3 c.length
      have e : ((c.length : Int) - 1 + 1).toNat = c.length := by omega
      rw [e]; simpa using this
    · simp
    · have e : ((c.length : Int) - 1 + 1).toNat = c.length := by omega
      rw [e]; simp
  case round =>
    obtain ⟨sc, ic, tail, rfl, rfl, i1, i2, s1, s2, hrow, htl, hgr, hbel⟩ := hrel
    have Hgr := Lib.hid hgr
    clear hgr
    have Htl := Lib.hid htl
    clear htl
    by_cases hi : 0 ≤ ic
    · obtain ⟨j, rfl⟩ := Int.eq_ofNat_of_zero_le hi
      have hj : j < c.length := by omega
      obtain ⟨b, off, rfl, hcell⟩ := (hx.open (by omega))
      have hcj := hcell j hj
      have hbl : b < w.heap.size := World.block_lt_of_cell? w _ hcj
      have hc1 := hc j hj
      have ej : ((j : Int) + 1).toNat = j + 1 := by omega
      rw [ej, List.replicate_succ', List.append_assoc] at hrow
      have hr0 : Row wr w.heap.size 3 (List.replicate j 0 ++ ((0 : Nat) : Int) :: tail) := by simpa using hrow
      generalize hv : c.getD j 0 = v at hcj hc1
      have Hv := Lib.hid hv
      have Hej := Lib.hid ej
      have HR0 := Lib.hid hr0
      have HB := Lib.hid hbel
      have hjI : (j : Int) < c.length := by omega
      clear hv ej hrow hr0 hbel hcell
      have hne : ¬ b = w.heap.size := by omega
      go_wp2
      go_loopw [1] (fun s wr => ∃ (q : Nat) (sv : Int), s = .int .i64 sv ∧ 0 ≤ sv ∧ sv ≤ 300 ∧ (q : Int) ≤ 300 - sv ∧ sc = sv + q * v ∧ Row wr w.heap.size 3 (List.replicate j 0 ++ (q : Int) :: tail) ∧ Below w.heap.size w wr) (fun s _ => (intOf s).toNat)
      case atStart => exact ⟨0, sc, rfl, s1, s2, by omega, by simp, HR0.out, HB.out⟩
      case round =>
        obtain ⟨q, sv, rfl, g1, g2, g3, heq, hrow, hb2⟩ := hrel
        have hcj' : wr.cell? ⟨b, off + j, none⟩ = some (.int .i64 v) := by rw [hb2.cell (p := ⟨b, off + j, none⟩) hbl]; exact hcj
        have Heq := Lib.hid heq
        clear heq
        rcases Int.lt_or_le sv v with hsv | hsv
        · have hq : sc / v = q ∧ sc % v = sv := by
            have h := Heq.out
            constructor
            · rw [h, Int.add_mul_ediv_right _ _ (by omega), Int.ediv_eq_zero_of_lt g1 hsv]; omega
            · rw [h, Int.add_mul_emod_self_right, Int.emod_eq_of_lt g1 hsv]
          have Hq := Lib.hid hq
          have HRow := Lib.hid hrow
          have HB2 := Lib.hid hb2
          clear hq hrow hb2
          go_wp2
          go_roundw
          case rel =>
            have e2 : ((j : Int) - 1 + 1).toNat = j := by omega
            refine ⟨_, _, sc / v :: tail, rfl, rfl, by omega, by omega, g1, g2, ?_, ?_, ?_, HB2.out⟩
            · rw [e2, Hq.out.1]; exact HRow.out
            · have := Htl.out; rw [Hej.out] at this; rw [e2, List.length_cons]; omega
            · have := Hgr.out; rw [Hej.out] at this; rw [e2, this]; simp only [grd, Hv.out]; rw [Hq.out.2]; simp
          case measure => simp only [intOf]; omega
        · have hqn : (q : Int) < 300 := by omega
          have hm : ((q + 1 : Nat) : Int) * v = q * v + v := by rw [Int.natCast_succ, Int.add_mul, Int.one_mul]
          have hlen : j < (List.replicate j (0 : Int) ++ (q : Int) :: tail).length := by simp
          have c2 := hrow.cell j hlen
          rw [get_mid0] at c2
          have f2 := hrow.free j
          have hn := hrow.set j ((q : Int) + 1)
          rw [set_mid0] at hn
          have HN := Lib.hid hn
          have HM := Lib.hid hm
          have HB2 := Lib.hid (hb2.setCell (p := ⟨w.heap.size, j, none⟩) (Nat.le_refl _) (.int .i64 ((q : Int) + 1)))
          clear hn hm hrow hb2 hlen
          go_wp2
          go_roundw
          case rel => exact ⟨q + 1, sv - v, rfl, by omega, by omega, by omega, by have := Heq.out; rw [HM.out]; omega, by have := HN.out; simpa using this, HB2.out⟩
          case measure => simp only [intOf]; omega
    · have hn : ic = -1 := by omega
      subst hn
      go_wp2
      go_ret
      have e3 : ((-1 : Int) + 1).toNat = 0 := by decide
      have hg := Hgr.out
      rw [e3] at hg hrow
      simp only [grd, List.nil_append, List.replicate_zero] at hg hrow
      exact ⟨w.heap.size, by rw [grd_length]; rfl, Nat.le_refl _, by rw [hg]; exact hrow, hbel⟩

/-! ### Total -/
theorem rtotal_any (xs : List Int) (a : Option Addr) (cap : Nat) (w : World) (hx : Ints w a xs) (hs : SmallSum xs) (hl : xs.length ≤ 9223372036854775807) :
    Calls Tryd.prog 60 #[.slice a xs.length cap] w fun e w' => e = .returned (.int .i64 xs.sum) ∧ w = w' := by
  go_enter Tryd.func60, Tryd.ntmps60
  go_wp2
  go_loop [3, 4] (fun n i => ∃ k : Nat, k ≤ xs.length ∧ i = .int .i64 k ∧ n = .int .i64 (xs.take k).sum) (fun _ i => xs.length - (intOf i).toNat)
  case atStart => exact ⟨0, Nat.zero_le _, rfl, rfl⟩
  case round =>
    obtain ⟨k, hk, rfl, rfl⟩ := hrel
    by_cases hlt : k < xs.length
    · obtain ⟨b, off, rfl, hc⟩ := hx.open (by omega)
      have hck := hc k hlt
      have hb := hs (k + 1) (by omega)
      rw [sum_take xs k hlt] at hb
      clear hc
      generalize hv : xs.getD k 0 = v at hck hb
      have Hv := Lib.hid hv
      clear hv
      go_wp2
      all_goals
        go_round
        case rel => exact ⟨k + 1, by omega, by go_num, by rw [sum_take xs k hlt, Hv.out]⟩
        case measure => simp only [intOf]; omega
    · go_wp2
      go_ret
      exact ⟨ret_int (by rw [List.take_of_length_le (by omega)]), rfl⟩

/-! ### Fewest -/
def initL (sum k : Nat) : List Int := (List.range (sum + 1)).map fun j => if 1 ≤ j ∧ j < k then -1 else 0
theorem initL_at {sum k j : Nat} (h : j ≤ sum) : (initL sum k).getD j 0 = if 1 ≤ j ∧ j < k then -1 else 0 := by
  unfold initL; rw [List.getD_eq_getElem?_getD, List.getElem?_map, List.getElem?_range (by omega)]; rfl
theorem initL_set {sum k : Nat} (h0 : 1 ≤ k) (hk : k ≤ sum) : (initL sum k).set k (-1) = initL sum (k + 1) := by
  apply List.ext_getElem (by simp [initL])
  intro j h1 h2
  simp only [initL, List.getElem_set, List.getElem_map, List.getElem_range]
  by_cases e : k = j
  · subst e; rw [if_pos rfl, if_pos (by omega)]
  · rw [if_neg e]
    by_cases c : 1 ≤ j ∧ j < k
    · rw [if_pos c, if_pos (by omega)]
    · rw [if_neg c, if_neg (by omega)]
theorem initL_one (sum : Nat) : initL sum 1 = List.replicate (sum + 1) 0 := by
  apply List.ext_getElem (by simp [initL])
  intro j h1 h2
  simp only [initL, List.getElem_map, List.getElem_range, List.getElem_replicate]
  rw [if_neg (by omega)]
theorem initL_all (sum : Nat) : initL sum (sum + 1) = 0 :: List.replicate sum (-1) := by
  apply List.ext_getElem (by simp [initL])
  intro j h1 h2
  simp only [initL, List.getElem_map, List.getElem_range]
  cases j with
  | zero => simp
  | succ j =>
    have : j + 1 < sum + 1 := by simpa [initL] using h1
    rw [if_pos (by omega)]; simp
set_option maxRecDepth 100000 in
set_option maxHeartbeats 2000000 in
theorem rfewest_any (c : List Int) (a : Option Addr) (cap : Nat) (sum : Nat) (w : World) (hx : Ints w a c) (hc : OKc c) (hsm : ∀ x ∈ c, x ≤ 60) (hl : c.length ≤ 6) (h1 : sum ≤ 300) :
    Calls Tryd.prog 59 #[.slice a c.length cap, .int .i64 sum] w fun e w' => NewInts 3 (fewL c sum) w e w' := by
  have hmk := fun w => run_make_row' (P := Tryd.prog) 22 3 (.int .i64 0) 8 Tryd.underlying22 (by kernel_rfl) rfl .i64 .i64 (sum + 1) (by omega) (by omega) w
  have hmk : ∀ w, (Instr.makeSlice 22 (.int .i64 ((sum : Int) + 1)) (.int .i64 ((sum : Int) + 1))).run Tryd.prog w = _ := fun w => hmk w
  have hr := Row.made w 3 (sum + 1)
  rw [← initL_one] at hr
  have HR := Lib.hid hr
  clear hr
  go_enter Tryd.func59, Tryd.ntmps59
  go_wp2
  go_loopw [6] (fun i wr => ∃ k : Nat, i = .int .i64 k ∧ 1 ≤ k ∧ k ≤ sum + 1 ∧ Row wr w.heap.size 3 (initL sum k) ∧ Below w.heap.size w wr) (fun i _ => sum + 1 - (intOf i).toNat)
  case atStart => exact ⟨1, rfl, Nat.le_refl _, by omega, HR.out, (Below.refl _ _).alloc (Nat.le_refl _) _⟩
  case round =>
    obtain ⟨k, rfl, hk1, hk, hrow, hb⟩ := hrel
    have hil : (initL sum k).length = sum + 1 := by simp [initL]
    rcases Nat.lt_or_ge k (sum + 1) with hlt | hge
    · have hkI : (k : Int) ≤ sum := by omega
      have c1 := hrow.cell k (by omega)
      have f1 := hrow.free k
      have hn := hrow.set k (-1)
      rw [initL_set hk1 (by omega)] at hn
      have HN := Lib.hid hn
      have HB := Lib.hid (hb.setCell (p := ⟨w.heap.size, k, none⟩) (Nat.le_refl _) (.int .i64 (-1)))
      generalize (initL sum k).getD k 0 = old at c1
      clear hn hrow hb hil
      go_wp2
      go_roundw
      case rel => exact ⟨k + 1, by go_num, by omega, by omega, HN.out, HB.out⟩
      case measure => simp only [intOf]; omega
    · obtain rfl : k = sum + 1 := by omega
      rw [initL_all] at hrow
      have HRow := Lib.hid hrow
      have HB := Lib.hid hb
      clear hrow hb hil
      go_wp2
      go_loopw [7] (fun i wr => ∃ (n : Nat) (r : List Int), i = .int .i64 n ∧ n ≤ sum + 1 ∧ Mid c sum n 0 0 r ∧ Row wr w.heap.size 3 r ∧ Below w.heap.size w wr) (fun i _ => sum + 1 - (intOf i).toNat)
      case atStart => exact ⟨0, _, rfl, Nat.zero_le _, Mid.start hc sum, HRow.out, HB.out⟩
      case round =>
        obtain ⟨n, r, rfl, hn, hM, hrow, hb⟩ := hrel
        rcases Nat.lt_or_ge n (sum + 1) with hnl | hnl
        · have hnI : (n : Int) ≤ sum := by omega
          have HM := Lib.hid hM
          have HRow := Lib.hid hrow
          have HB := Lib.hid hb
          clear hM hrow hb
          go_wp2
          go_loopw [8] (fun i wr => ∃ (s : Nat) (r : List Int), i = .int .i64 s ∧ s ≤ sum + 1 ∧ Mid c sum n s 0 r ∧ Row wr w.heap.size 3 r ∧ Below w.heap.size w wr) (fun i _ => sum + 1 - (intOf i).toNat)
          case atStart => exact ⟨0, _, rfl, Nat.zero_le _, HM.out, HRow.out, HB.out⟩
          case round =>
            obtain ⟨s, r, rfl, hs, hM, hrow, hb⟩ := hrel
            rcases Nat.lt_or_ge s (sum + 1) with hsl | hsl
            · have hsI : (s : Int) ≤ sum := by omega
              have HM := Lib.hid hM
              have HRow := Lib.hid hrow
              have HB := Lib.hid hb
              clear hM hrow hb
              go_wp2
              go_loopw [9] (fun i wr => ∃ (j : Nat) (r : List Int), i = .int .i64 j ∧ j ≤ c.length ∧ Mid c sum n s j r ∧ Row wr w.heap.size 3 r ∧ Below w.heap.size w wr) (fun i _ => c.length - (intOf i).toNat)
              case atStart => exact ⟨0, _, rfl, Nat.zero_le _, HM.out, HRow.out, HB.out⟩
              case round =>
                obtain ⟨j, r, rfl, hj, hM, hrow, hb⟩ := hrel
                have hrl := hM.len
                have hread := hM.read (by omega)
                have c1 := hrow.cell s (by omega)
                have HM := Lib.hid hM
                have HRow := Lib.hid hrow
                have HB := Lib.hid hb
                rcases Nat.lt_or_ge j c.length with hjl | hjl
                · obtain ⟨bb, oo, rfl, hcell⟩ := (hx.below hb).open (by omega)
                  have hcj := hcell j hjl
                  have hjI : (j : Int) < c.length := by omega
                  have hmem : c.getD j 0 ∈ c := by rw [List.getD_eq_getElem?_getD, List.getElem?_eq_getElem hjl]; exact List.getElem_mem hjl
                  have hx1 := hc.pos _ hmem
                  have hx2 := hsm _ hmem
                  by_cases hF : F c s = n
                  · have hrs := hread.2 hF
                    rw [hrs] at c1
                    have hen : ((n : Int) == (n : Int)) = true := by simp
                    have HPut := Lib.hid (fun u hu hus hr => hM.put hc hF hjl (u := u) hu hus hr)
                    have HPass := Lib.hid (fun hp => hM.pass hF (i := j) hp)
                    obtain ⟨x, hxe⟩ := Int.eq_ofNat_of_zero_le (show 0 ≤ c.getD j 0 by omega)
                    rw [hxe] at hcj hx1 hx2 HPut HPass
                    clear hread hcell hrs hM hmem hxe hF
                    rcases Nat.lt_or_ge sum (s + x) with hov | hov
                    · have HPs := Lib.hid (HPass.out (fun u hu hus => by omega))
                      have hovI : (sum : Int) < (s : Int) + x := by omega
                      clear HPut HPass hrow hb hrl
                      go_wp2
                      go_roundw
                      case rel => first | exact ⟨j + 1, r, by go_num, by omega, HPs.out, HRow.out, HB.out⟩ | exact ⟨j + 1, by go_num, by omega, r, HPs.out, HRow.out, HB.out⟩
                      case measure => simp only [intOf]; omega
                    · have c2 := hrow.cell (s + x) (by omega)
                      have f2 := hrow.free (s + x)
                      have hovI : (s : Int) + x ≤ sum := by omega
                      rcases Int.lt_or_le (r.getD (s + x) 0) 0 with hneg | hneg
                      · have HPt := Lib.hid (HPut.out (s + x) (by omega) hov hneg)
                        have HN := Lib.hid (hrow.set (s + x) ((n : Int) + 1))
                        have HB2 := Lib.hid (hb.setCell (p := ⟨w.heap.size, s + x, none⟩) (Nat.le_refl _) (.int .i64 ((n : Int) + 1)))
                        generalize r.getD (s + x) 0 = rv at *
                        clear HPut HPass hrow hb hrl
                        go_wp2
                        go_roundw
                        case rel => first | exact ⟨j + 1, r.set (s + x) ((n : Int) + 1), by go_num, by omega, HPt.out, HN.out, HB2.out⟩ | exact ⟨j + 1, by go_num, by omega, r.set (s + x) ((n : Int) + 1), HPt.out, HN.out, HB2.out⟩
                        case measure => simp only [intOf]; omega
                      · have HPs := Lib.hid (HPass.out (fun u hu hus => by
                          have : u = s + x := by omega
                          rw [this]; exact hneg))
                        generalize r.getD (s + x) 0 = rv at *
                        clear HPut HPass hrow hb hrl
                        go_wp2
                        go_roundw
                        case rel => first | exact ⟨j + 1, r, by go_num, by omega, HPs.out, HRow.out, HB.out⟩ | exact ⟨j + 1, by go_num, by omega, r, HPs.out, HRow.out, HB.out⟩
                        case measure => simp only [intOf]; omega
                  · have hrs : r.getD s 0 ≠ n := fun c => hF (hread.1 c)
                    have HSk := Lib.hid (hM.skip (.inl hF) hj)
                    have hen : (r.getD s 0 == (n : Int)) = false := by rw [beq_eq_false_iff_ne]; exact hrs
                    clear hread hcell hM hmem hF hrow hb hrl hrs
                    generalize r.getD s 0 = rv at *
                    go_wp2
                    go_roundw
                    case rel => first | exact ⟨s + 1, r, by go_num, by omega, HSk.out, HRow.out, HB.out⟩ | exact ⟨s + 1, by go_num, by omega, r, HSk.out, HRow.out, HB.out⟩
                    case measure => simp only [intOf]; omega
                · obtain rfl : c.length = j := by omega
                  have HSk := Lib.hid (hM.skip (.inr rfl) hj)
                  have h3 : decide (c.length < c.length) = false := by simp
                  clear hread hM hrow hb hrl c1
                  go_wp2
                  go_roundw
                  case rel => first | exact ⟨s + 1, r, by go_num, by omega, HSk.out, HRow.out, HB.out⟩ | exact ⟨s + 1, by go_num, by omega, r, HSk.out, HRow.out, HB.out⟩
                  case measure => simp only [intOf]; omega
            · obtain rfl : s = sum + 1 := by omega
              have HMn := Lib.hid (hM.next hc)
              have HRow := Lib.hid hrow
              have HB := Lib.hid hb
              clear hM hrow hb
              go_wp2
              go_roundw
              case rel => first | exact ⟨n + 1, r, by go_num, by omega, HMn.out, HRow.out, HB.out⟩ | exact ⟨n + 1, by go_num, by omega, r, HMn.out, HRow.out, HB.out⟩
              case measure => simp only [intOf]; omega
        · obtain rfl : n = sum + 1 := by omega
          have hd := hM.done
          subst hd
          have HRow := Lib.hid hrow
          have HB := Lib.hid hb
          clear hM hrow hb
          go_wp2
          go_ret
          exact ⟨w.heap.size, by rw [fewL_length]; rfl, Nat.le_refl _, HRow.out, HB.out⟩
end Go.Proofs.YtomgcfjdmoefgaaDoor
