/- WALKS: coins.both, coins.Greedy, coins.Best, coins.Always: what each computes. -/
import Derived.Test.YtomgcfjdmoefgaaDoorCoinsWalks2C
namespace Go.Proofs.YtomgcfjdmoefgaaDoor
open Go Go.RowKit CoinsPlain

theorem chkL_ok (p : Option Int) (l : List Int) (h : chkL p l = 0) :
    (∀ n ∈ l, 1 ≤ n ∧ n ≤ 60) ∧ (∀ i, i + 1 < l.length → l.getD i 0 < l.getD (i + 1) 0) ∧ (0 < l.length → badNext p (l.getD 0 0) = false) := by
  induction l generalizing p with
  | nil => simp
  | cons n l ih =>
    simp only [chkL] at h
    by_cases h1 : n < 1 ∨ 60 < n
    · rw [if_pos h1] at h; omega
    rw [if_neg h1] at h
    by_cases h2 : badNext p n = true
    · rw [if_pos h2] at h; omega
    rw [if_neg h2] at h
    obtain ⟨a, b, c⟩ := ih (some n) h
    refine ⟨fun m hm => ?_, fun i hi => ?_, fun _ => by simpa using h2⟩
    · rcases List.mem_cons.1 hm with rfl | hm
      · omega
      · exact a m hm
    · cases i with
      | zero =>
        have := c (by simpa using hi)
        simp only [badNext, decide_eq_false_iff_not] at this
        show n < l.getD 0 0
        omega
      | succ i =>
        have := b i (by simpa using hi)
        simpa using this

/-- coins that may be -/
structure Fine (c : List Int) : Prop where
  up : Up c
  short : c.length ≤ 6
  small : ∀ i, i < c.length → c.getD i 0 ≤ 60

theorem chk_fine {c : List Int} (h : chk c = 0) : Fine c := by
  unfold chk at h
  by_cases h0 : c.length = 0
  · rw [if_pos h0] at h; omega
  rw [if_neg h0] at h
  by_cases h6 : 6 < c.length
  · rw [if_pos h6] at h; omega
  rw [if_neg h6] at h
  obtain ⟨a, b, d⟩ := chkL_ok none c h
  have d := d (by omega)
  simp only [badNext, bne_eq_false_iff_eq] at d
  exact ⟨⟨d, by omega, b⟩, by omega, fun i hi => (a _ (Up.mem i hi)).2⟩

theorem check_yes (c : List Int) (a : Option Addr) (cap : Nat) (w : World) (hx : Ints w a c) (hl : c.length ≤ 9223372036854775807) (h : chk c = 0) :
    Calls Tryd.prog 19 #[.slice a c.length cap] w fun e w' => e = .returned .nilIface ∧ w = w' :=
  (check_any c a cap w hx hl).mono fun _ _ ⟨he, hw⟩ => ⟨by rw [he, h]; rfl, hw⟩
theorem check_no (c : List Int) (a : Option Addr) (cap : Nat) (w : World) (hx : Ints w a c) (hl : c.length ≤ 9223372036854775807) (h : chk c ≠ 0) :
    Calls Tryd.prog 19 #[.slice a c.length cap] w fun e w' => e = .returned (.iface 81 (.int .i64 (chk c))) ∧ w = w' :=
  (check_any c a cap w hx hl).mono fun _ _ ⟨he, hw⟩ => ⟨by rw [he, errV_bad h], hw⟩

/-- what is wrong with coins and a sum -/
def bothC (c : List Int) (s : Int) : Int := if chk c ≠ 0 then chk c else if s < 0 ∨ 300 < s then 1 else 0
theorem both_any (c : List Int) (a : Option Addr) (cap : Nat) (s : Int) (w : World) (hx : Ints w a c) (hl : c.length ≤ 9223372036854775807) :
    Calls Tryd.prog 64 #[.slice a c.length cap, .int .i64 s] w fun e w' => e = .returned (errV 81 (bothC c s)) ∧ w = w' := by
  by_cases h : chk c = 0
  · by_cases hs : s < 0 ∨ 300 < s
    · have e : bothC c s = 1 := by simp only [bothC]; rw [if_neg (by simp [h]), if_pos hs]
      rw [e, errV_bad (by decide)]
      have H := Lib.hid h
      have Hs := Lib.hid hs
      clear e h hs
      go_enter Tryd.func64, Tryd.ntmps64
      go_wp2_with (first | (go_at_call 19; refine (check_yes c a cap _ hx hl H.out).mono ?_; rintro e w' ⟨rfl, rfl⟩) | (go_at_call 58; refine (within_no s 0 300 Hs.out _).mono ?_; rintro e w' ⟨rfl, rfl⟩))
      go_ret
      exact ⟨rfl, rfl⟩
    · have e : bothC c s = 0 := by simp only [bothC]; rw [if_neg (by simp [h]), if_neg hs]
      rw [e, errV_ok]
      have H := Lib.hid h
      have s1 : 0 ≤ s := by omega
      have s2 : s ≤ 300 := by omega
      clear e h hs
      go_enter Tryd.func64, Tryd.ntmps64
      go_wp2_with (first | (go_at_call 19; refine (check_yes c a cap _ hx hl H.out).mono ?_; rintro e w' ⟨rfl, rfl⟩) | (go_at_call 58; refine (within_yes s 0 300 s1 s2 _).mono ?_; rintro e w' ⟨rfl, rfl⟩))
      go_ret
      exact ⟨rfl, rfl⟩
  · have e : bothC c s = chk c := by simp only [bothC]; rw [if_pos h]
    rw [e, errV_bad h]
    have H := Lib.hid h
    clear e h
    go_enter Tryd.func64, Tryd.ntmps64
    go_wp2_with (go_at_call 19; refine (check_no c a cap _ hx hl H.out).mono ?_; rintro e w' ⟨rfl, rfl⟩)
    go_ret
    exact ⟨rfl, rfl⟩
theorem both_yes (c : List Int) (a : Option Addr) (cap : Nat) (s : Int) (w : World) (hx : Ints w a c) (hl : c.length ≤ 9223372036854775807) (h : bothC c s = 0) :
    Calls Tryd.prog 64 #[.slice a c.length cap, .int .i64 s] w fun e w' => e = .returned .nilIface ∧ w = w' :=
  (both_any c a cap s w hx hl).mono fun _ _ ⟨he, hw⟩ => ⟨by rw [he, h]; rfl, hw⟩
theorem both_no (c : List Int) (a : Option Addr) (cap : Nat) (s : Int) (w : World) (hx : Ints w a c) (hl : c.length ≤ 9223372036854775807) (h : bothC c s ≠ 0) :
    Calls Tryd.prog 64 #[.slice a c.length cap, .int .i64 s] w fun e w' => e = .returned (.iface 81 (.int .i64 (bothC c s))) ∧ w = w' :=
  (both_any c a cap s w hx hl).mono fun _ _ ⟨he, hw⟩ => ⟨by rw [he, errV_bad h], hw⟩
theorem both_fine {c : List Int} {s : Int} (h : bothC c s = 0) : Fine c ∧ 0 ≤ s ∧ s ≤ 300 := by
  unfold bothC at h
  by_cases h1 : chk c ≠ 0
  · rw [if_pos h1] at h; exact absurd h h1
  rw [if_neg h1] at h
  by_cases h2 : s < 0 ∨ 300 < s
  · rw [if_pos h2] at h; omega
  exact ⟨chk_fine (by simpa using h1), by omega, by omega⟩

/-- a new slice that reads as `xs`, and no error -/
def NewIntsOk (E : TypeId) (xs : List Int) (w : World) (e : Ending) (w' : World) : Prop :=
  ∃ g, e = .returned (.tuple #[.slice (some ⟨g, 0, none⟩) xs.length xs.length, .nilIface]) ∧ w.heap.size ≤ g ∧ Row w' g E xs ∧ Below w.heap.size w w'

theorem Greedy_yes (c : List Int) (a : Option Addr) (cap : Nat) (s : Int) (w : World) (hx : Ints w a c) (h : bothC c s = 0) :
    Calls Tryd.prog 24 #[.slice a c.length cap, .int .i64 s] w fun e w' => NewIntsOk 3 (grd c c.length s) w e w' := by
  obtain ⟨hf, s1, s2⟩ := both_fine h
  have H := Lib.hid h
  clear h
  have hl := hf.short
  go_enter Tryd.func24, Tryd.ntmps24
  go_wp2_with (first | (go_at_call 64; refine (both_yes c a cap s _ hx (by omega) H.out).mono ?_; rintro e w' ⟨rfl, rfl⟩) | (go_at_call 63; refine (greedy_any c a cap s _ hx (fun i hi => hf.up.ge1 i hi) hl s1 s2).mono ?_; rintro e w' ⟨g, rfl, h1, h2, h3⟩))
  go_ret2
  exact ⟨g, rfl, h1, h2, h3⟩
theorem Greedy_no (c : List Int) (a : Option Addr) (cap : Nat) (s : Int) (w : World) (hx : Ints w a c) (hl : c.length ≤ 9223372036854775807) (h : bothC c s ≠ 0) :
    Calls Tryd.prog 24 #[.slice a c.length cap, .int .i64 s] w fun e w' => e = .returned (.tuple #[.slice none 0 0, .iface 81 (.int .i64 (bothC c s))]) ∧ w = w' := by
  have H := Lib.hid h
  clear h
  go_enter Tryd.func24, Tryd.ntmps24
  go_wp2_with (go_at_call 64; refine (both_no c a cap s _ hx hl H.out).mono ?_; rintro e w' ⟨rfl, rfl⟩)
  go_ret2
  exact ⟨rfl, rfl⟩
theorem Best_no (c : List Int) (a : Option Addr) (cap : Nat) (s : Int) (w : World) (hx : Ints w a c) (hl : c.length ≤ 9223372036854775807) (h : bothC c s ≠ 0) :
    Calls Tryd.prog 26 #[.slice a c.length cap, .int .i64 s] w fun e w' => e = .returned (.tuple #[.slice none 0 0, .iface 81 (.int .i64 (bothC c s))]) ∧ w = w' := by
  have H := Lib.hid h
  clear h
  go_enter Tryd.func26, Tryd.ntmps26
  go_wp2_with (go_at_call 64; refine (both_no c a cap s _ hx hl H.out).mono ?_; rintro e w' ⟨rfl, rfl⟩)
  go_ret2
  exact ⟨rfl, rfl⟩

theorem Best_yes (c : List Int) (a : Option Addr) (cap : Nat) (s0 : Int) (w : World) (hx : Ints w a c) (h : bothC c s0 = 0) :
    Calls Tryd.prog 26 #[.slice a c.length cap, .int .i64 s0] w fun e w' => NewIntsOk 3 (bst c c.length s0.toNat) w e w' := by
  obtain ⟨hf, s1, s2⟩ := both_fine h
  obtain ⟨S0, rfl⟩ := Int.eq_ofNat_of_zero_le s1
  have H := Lib.hid h
  clear h
  have hl := hf.short
  have hok := hf.up.ok
  rw [Int.toNat_natCast]
  have hmk := fun w => run_make_row' (P := Tryd.prog) 22 3 (.int .i64 0) 8 Tryd.underlying22 (by kernel_rfl) rfl .i64 .i64 c.length (by omega) (by omega) w
  go_enter Tryd.func26, Tryd.ntmps26
  go_wp2_with (first | (go_at_call 64; refine (both_yes c a cap S0 _ hx (by omega) H.out).mono ?_; rintro e w' ⟨rfl, rfl⟩) | (go_at_call 61; refine (fewest_any c a cap S0 _ hx hok hl (by omega)).mono ?_; rintro e w1 ⟨g, rfl, hg, hrow, hbel⟩; rw [fewL_length]))
  have hgl := hrow.lt
  go_loopw [1, 9] (fun s i wr => ∃ (sc : Nat) (ic : Int) (tail : List Int), s = .int .i64 sc ∧ i = .int .i64 ic ∧ -1 ≤ ic ∧ ic < c.length ∧ sc ≤ S0 ∧
      Row wr g 3 (fewL c S0) ∧ Row wr w1.heap.size 3 (List.replicate (ic + 1).toNat 0 ++ tail) ∧ (ic + 1).toNat + tail.length = c.length ∧ bst c c.length S0 = bst c (ic + 1).toNat sc ++ tail ∧ Below w.heap.size w wr ∧ w1.heap.size < wr.heap.size)
    (fun _ i _ => (intOf i + 1).toNat)
  case atStart =>
    have e : ((c.length : Int) - 1 + 1).toNat = c.length := by omega
    refine ⟨S0, _, [], rfl, rfl, by omega, by omega, by omega, hrow.alloc _, ?_, ?_, ?_, hbel.alloc (by have := hbel.size; omega) _, by simp⟩
    · rw [e]; simpa using Row.made w1 3 c.length
    · simp
    · rw [e]; simp
  case round =>
    obtain ⟨sc, ic, tail, rfl, rfl, i1, i2, hsc, hfew, hout, htl, hbst, hbel1, hsz⟩ := hrel
    have Hbst := Lib.hid hbst
    have Htl := Lib.hid htl
    clear hbst htl
    rcases Int.lt_or_le ic 0 with hi | hi
    · have hn : ic = -1 := by omega
      subst hn
      go_wp2
      go_ret2
      have e3 : ((-1 : Int) + 1).toNat = 0 := by decide
      have hb := Hbst.out
      rw [e3] at hb hout
      simp only [bst, List.nil_append, List.replicate_zero] at hb hout
      exact ⟨w1.heap.size, by rw [bst_length]; rfl, hbel.size, by rw [hb]; exact hout, hbel1⟩
    · obtain ⟨j, rfl⟩ := Int.eq_ofNat_of_zero_le hi
      have hj : j < c.length := by omega
      obtain ⟨b, off, rfl, hcell⟩ := hx.open (by omega)
      have hcj := hcell j hj
      have hbl : b < w.heap.size := World.block_lt_of_cell? w _ hcj
      have hn1 := hf.up.ge1 j hj
      have hn2 := hf.small j hj
      obtain ⟨n, hn⟩ := Int.eq_ofNat_of_zero_le (show 0 ≤ c.getD j 0 by omega)
      rw [hn] at hcj hn1 hn2
      have Hn := Lib.hid hn
      clear hn hcell
      have ej : ((j : Int) + 1).toNat = j + 1 := by omega
      rw [ej] at hout
      have Hej := Lib.hid ej
      clear ej
      have hne : ¬ b = w1.heap.size := by have := hbel.size; omega
      have hne2 : ¬ g = w1.heap.size := by omega
      go_wp2
      obtain ⟨wo, rfl⟩ : ∃ wo : World, wo = wr := ⟨_, rfl⟩
      go_loopw [1] (fun s wi => ∃ (sd : Nat) (u : Nat), s = .int .i64 sd ∧ sd ≤ sc ∧ u + uses c n sd = uses c n sc ∧ sd - uses c n sd * n = sc - uses c n sc * n ∧ u ≤ 300 - sd ∧
          Row wi g 3 (fewL c S0) ∧ Row wi w1.heap.size 3 (List.replicate j 0 ++ (u : Int) :: tail) ∧ Below w.heap.size w wi ∧ w1.heap.size < wi.heap.size)
        (fun s _ => (intOf s).toNat)
      case atStart =>
        refine ⟨sc, 0, rfl, Nat.le_refl _, by omega, rfl, by omega, hfew, ?_, hbel1, hsz⟩
        rw [List.replicate_succ', List.append_assoc] at hout
        exact hout
      case round =>
        obtain ⟨sd, u, rfl, hsd, hu1, hu2, hu3, hfewi, houti, hbeli, hszi⟩ := hrel
        have Hu1 := Lib.hid hu1
        have Hu2 := Lib.hid hu2
        clear hu1 hu2
        have hcji := hcj
        rw [← hbeli.cell (p := ⟨b, off + j, none⟩) hbl] at hcji
        have b1 := F_bounds hok S0 sd (by omega)
        have hs2 := hfewi.cell sd (by rw [fewL_length]; omega)
        rw [fewL_getD c S0 sd (by omega)] at hs2 b1
        have hun := uses_no (c := c) (x := (n : Int)) (s := sd)
        have huy := fun hh => uses_yes (c := c) (x := (n : Int)) (s := sd) (by omega) hh
        rcases Nat.lt_or_ge sd n with hlt | hge
        · -- the coin is too great
          have h0 := hun (fun hh => by have := hh.1; omega)
          clear hun huy
          generalize hv2 : F c sd = v2 at hs2 b1
          have Hv2 := Lib.hid hv2
          have H0 := Lib.hid h0
          clear hv2 h0
          have hd : decide (n ≤ sd) = false := by simp; omega
          go_wp2
          go_quiet (fail)
          go_wp2
          go_roundw
          case rel =>
            refine ⟨sd, (j : Int) - 1, u :: tail, rfl, rfl, by omega, by omega, by omega, hfewi.drewN nq, ?_, ?_, ?_, drewN_below hbeli nq, hszi⟩
            · rw [show ((j : Int) - 1 + 1).toNat = j by omega]; exact houti.drewN nq
            · have := Htl.out; rw [Hej.out] at this; rw [show ((j : Int) - 1 + 1).toNat = j by omega, List.length_cons]; omega
            · rw [Hbst.out, Hej.out, show ((j : Int) - 1 + 1).toNat = j by omega]
              simp only [bst, Hn.out, Int.toNat_natCast]
              have a1 := Hu1.out
              have a2 := Hu2.out
              rw [H0.out, Nat.add_zero] at a1
              rw [H0.out, Nat.zero_mul, Nat.sub_zero] at a2
              rw [← a2, ← a1]
              simp
          case measure => simp only [intOf]; omega
        · have b3 := F_bounds hok S0 (sd - n) (by omega)
          have hs1 := hfewi.cell (sd - n) (by rw [fewL_length]; omega)
          rw [fewL_getD c S0 (sd - n) (by omega)] at hs1 b3
          by_cases hU : F c (sd - n) + 1 = F c sd
          · have hY := huy ⟨by omega, by rw [Int.toNat_natCast]; exact hU⟩
            clear hun huy
            have hcur := houti.cell j (by simp)
            rw [at_mid _ _ _ _ (by simp)] at hcur
            have hfr := houti.free j
            generalize F c sd = v2 at hs2 b1 hU
            generalize F c (sd - n) = v1 at hs1 b3 hU
            have ht : (v1 + 1 == v2) = true := by rw [beq_iff_eq]; exact hU
            have HY := Lib.hid hY
            clear hY hU
            have t1 : n ≤ sd := by omega
            go_wp2
            go_quiet (fail)
            go_wp2
            go_roundw
            case rel =>
              have hY2 := HY.out
              rw [Int.toNat_natCast] at hY2
              have a1 := Hu1.out
              have a2 := Hu2.out
              rw [hY2] at a1 a2
              refine ⟨sd - n, u + 1, by rw [Int.ofNat_sub hge], by omega, by omega, ?_, by omega, (hfewi.drewN nq).other _ hne2 _, ?_, (drewN_below hbeli nq).setCell hbel.size _, by simpa using hszi⟩
              · rw [← a2, Nat.succ_mul]; omega
              · have := (houti.drewN nq).set j ((u : Int) + 1)
                rw [set_mid _ _ _ _ _ (by simp)] at this
                exact this
            case measure => simp only [intOf]; omega
          · have h0 := hun (fun hh => hU (by have := hh.2; rw [Int.toNat_natCast] at this; exact this))
            clear hun huy
            generalize F c sd = v2 at hs2 b1 hU
            generalize F c (sd - n) = v1 at hs1 b3 hU
            have ht : (v1 + 1 == v2) = false := by rw [beq_eq_false_iff_ne]; exact hU
            have H0 := Lib.hid h0
            clear h0 hU
            have t1 : n ≤ sd := by omega
            go_wp2
            go_quiet (fail)
            go_wp2
            go_roundw
            case rel =>
              refine ⟨sd, (j : Int) - 1, u :: tail, rfl, rfl, by omega, by omega, by omega, hfewi.drewN nq, ?_, ?_, ?_, drewN_below hbeli nq, hszi⟩
              · rw [show ((j : Int) - 1 + 1).toNat = j by omega]; exact houti.drewN nq
              · have := Htl.out; rw [Hej.out] at this; rw [show ((j : Int) - 1 + 1).toNat = j by omega, List.length_cons]; omega
              · rw [Hbst.out, Hej.out, show ((j : Int) - 1 + 1).toNat = j by omega]
                simp only [bst, Hn.out, Int.toNat_natCast]
                have a1 := Hu1.out
                have a2 := Hu2.out
                rw [H0.out, Nat.add_zero] at a1
                rw [H0.out, Nat.zero_mul, Nat.sub_zero] at a2
                rw [← a2, ← a1]
                simp
            case measure => simp only [intOf]; omega
end Go.Proofs.YtomgcfjdmoefgaaDoor
