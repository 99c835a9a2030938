/- WALKS: ricksteadsame.Sum, ricksteadlaw5.worth, coins.Always, ricksteadlaw5.coinsFact: what each computes. -/
import Derived.Test.YtlmlnfdkikpphaaCoinsWalks3
namespace Go.Proofs.Ytlmlnfdkikpphaa
open Go Go.RowKit CoinsPlain

theorem Sum_any (xs : List Int) (a : Option Addr) (cap : Nat) (w : World) (hx : Ints w a xs) (hs : SmallSum xs) (hl : xs.length ≤ 9223372036854775807) :
    Calls Try.prog 8 #[.slice a xs.length cap] w fun e w' => e = .returned (.int .i64 xs.sum) ∧ w = w' := by
  go_enter Try.func8, Try.ntmps8
  go_wp2
  go_loop [3, 4] (fun n i => ∃ k : Nat, k ≤ xs.length ∧ i = .int .i64 k ∧ n = .int .i64 (xs.take k).sum) (fun _ i => xs.length - (intOf i).toNat)
  case atStart => exact ⟨0, Nat.zero_le _, rfl, rfl⟩
  case round =>
    obtain ⟨k, hk, rfl, rfl⟩ := hrel
    by_cases hlt : k < xs.length
    · obtain ⟨b, off, rfl, hc⟩ := hx.open (by omega)
      have hck := hc k hlt
      have hb := hs (k + 1) (by omega)
      rw [sum_take xs k hlt] at hb
      clear hc
      generalize hv : xs.getD k 0 = v at hck hb
      have Hv := Lib.hid hv
      clear hv
      go_wp2
      all_goals
        go_round
        case rel => exact ⟨k + 1, by omega, by go_num, by rw [sum_take xs k hlt, Hv.out]⟩
        case measure => simp only [intOf]; omega
    · go_wp2
      go_ret
      exact ⟨ret_int (by rw [List.take_of_length_le (by omega)]), rfl⟩

theorem take_sum_le (xs : List Int) (h : ∀ x ∈ xs, 0 ≤ x) (k : Nat) : 0 ≤ (xs.take k).sum ∧ (xs.take k).sum ≤ xs.sum := by
  induction xs generalizing k with
  | nil => simp
  | cons x xs ih =>
    have hx := h x (by simp)
    have ih := fun k => ih (fun y hy => h y (List.mem_cons_of_mem _ hy)) k
    cases k with
    | zero => have := ih xs.length; rw [List.take_length] at this; simp; omega
    | succ k => have := ih k; simp; omega
theorem small_of_nonneg (xs : List Int) (h : ∀ x ∈ xs, 0 ≤ x) (hs : xs.sum ≤ 4611686018427387904) : SmallSum xs := fun k _ => by
  have := take_sum_le xs h k; omega
theorem sum_le_worth (c m : List Int) (hc : ∀ n ∈ c, 1 ≤ n) (hm : ∀ k ∈ m, 0 ≤ k) (hl : m.length = c.length) : m.sum ≤ worthL c m := by
  induction c generalizing m with
  | nil =>
    have : m = [] := List.eq_nil_of_length_eq_zero (by simpa using hl)
    subst this; simp [worthL]
  | cons n c ih =>
    cases m with
    | nil => simp at hl
    | cons k m =>
      have a := ih m (fun x hx => hc x (List.mem_cons_of_mem _ hx)) (fun x hx => hm x (List.mem_cons_of_mem _ hx)) (by simpa using hl)
      have hk := hm k (by simp)
      have hn := hc n (by simp)
      have b : k * 1 ≤ k * n := Int.mul_le_mul_of_nonneg_left hn hk
      simp only [List.sum_cons, worthL]
      omega

/-! ### worth -/
def wrt (c m : List Int) : Int := if m.length ≠ c.length then -1 else if (m.all fun k => decide (0 ≤ k) && decide (k ≤ 300)) = true then worthL c m else -1
theorem worthL_take (c m : List Int) (k : Nat) (hc : k < c.length) (hm : k < m.length) : worthL (c.take (k + 1)) (m.take (k + 1)) = worthL (c.take k) (m.take k) + m.getD k 0 * c.getD k 0 := by
  rw [take_succ_getD c k hc, take_succ_getD m k hm, worthL_snoc _ _ _ _ (by simp; omega)]
theorem worthL_bound (c m : List Int) (hc : ∀ n ∈ c, 0 ≤ n ∧ n ≤ 60) (hm : ∀ k ∈ m, 0 ≤ k ∧ k ≤ 300) : 0 ≤ worthL c m ∧ worthL c m ≤ 18000 * c.length := by
  induction c generalizing m with
  | nil => simp [worthL]
  | cons n c ih =>
    cases m with
    | nil => simp [worthL]; omega
    | cons k m =>
      have a := ih m (fun x hx => hc x (List.mem_cons_of_mem _ hx)) (fun x hx => hm x (List.mem_cons_of_mem _ hx))
      have hk := hm k (by simp)
      have hn := hc n (by simp)
      have b1 : 0 ≤ k * n := Int.mul_nonneg hk.1 hn.1
      have b2 : k * n ≤ 300 * 60 := Int.mul_le_mul hk.2 hn.2 hn.1 (by omega)
      simp only [worthL, List.length_cons]
      omega

theorem worth_any (c m : List Int) (a a' : Option Addr) (cap cap' : Nat) (w : World) (hx : Ints w a c) (hy : Ints w a' m) (hf : Fine c) (hl : m.length ≤ 9223372036854775807) :
    Calls Try.prog 10 #[.slice a c.length cap, .slice a' m.length cap'] w fun e w' => e = .returned (.int .i64 (wrt c m)) ∧ Below w.heap.size w w' := by
  by_cases hlen : m.length = c.length
  · have hcl := hf.short
    have e0 : wrt c m = if (m.all fun k => decide (0 ≤ k) && decide (k ≤ 300)) = true then worthL c m else -1 := by unfold wrt; rw [if_neg (by simp [hlen])]
    have E0 := Lib.hid e0
    clear e0
    have hne : ((m.length : Int) != (c.length : Int)) = false := by rw [bne_eq_false_iff_eq]; omega
    have Hlen := Lib.hid hlen
    clear hlen
    go_enter Try.func10, Try.ntmps10
    go_wp2
    go_loopw [5, 6] (fun s i wr => ∃ k : Nat, k ≤ c.length ∧ i = .int .i64 k ∧ s = .int .i64 (worthL (c.take k) (m.take k)) ∧ (∀ x ∈ m.take k, 0 ≤ x ∧ x ≤ 300) ∧ Below w.heap.size w wr)
      (fun _ i _ => c.length - (intOf i).toNat)
    case atStart => exact ⟨0, Nat.zero_le _, rfl, rfl, by simp, Below.refl _ _⟩
    case round =>
      obtain ⟨k, hk, rfl, rfl, hall, hbel⟩ := hrel
      rcases Nat.lt_or_ge k c.length with hlt | hge
      · have hkm : k < m.length := by have := Hlen.out; omega
        obtain ⟨b, off, rfl, hc⟩ := hx.open (by omega)
        obtain ⟨b', off', rfl, hc'⟩ := hy.open (by omega)
        have hck := hc k hlt
        have hck' := hc' k hkm
        rw [← hbel.cell (p := ⟨b, off + k, none⟩) (World.block_lt_of_cell? w _ hck)] at hck
        rw [← hbel.cell (p := ⟨b', off' + k, none⟩) (World.block_lt_of_cell? w _ hck')] at hck'
        have hw := worthL_take c m k hlt hkm
        have hc1 := hf.up.ge1 k hlt
        have hc2 := hf.small k hlt
        have hbd := worthL_bound (c.take k) (m.take k) (fun n hn => by obtain ⟨i, hi, rfl⟩ := Up.idx (List.mem_of_mem_take hn); exact ⟨by have := hf.up.ge1 i hi; omega, hf.small i hi⟩) hall
        have hlk : ((c.take k).length : Int) ≤ 6 := by simp; omega
        have hmem : (∀ x ∈ m.take k, 0 ≤ x ∧ x ≤ 300) → 0 ≤ m.getD k 0 → m.getD k 0 ≤ 300 → ∀ x ∈ m.take (k + 1), 0 ≤ x ∧ x ≤ 300 := fun h h1 h2 x hx => by
          rw [take_succ_getD m k hkm] at hx
          rcases List.mem_append.1 hx with hx | hx
          · exact h x hx
          · rw [List.mem_singleton.1 hx]; exact ⟨h1, h2⟩
        have hmm : m.getD k 0 ∈ m := by rw [List.getD_eq_getElem?_getD, List.getElem?_eq_getElem hkm]; simp
        clear hc hc'
        generalize hv : c.getD k 0 = v at hck hc1 hc2 hw
        generalize hu : m.getD k 0 = u at hck' hw hmem hmm
        generalize worthL (c.take k) (m.take k) = W at hbd hw
        have Hall := Lib.hid hall
        have Hmem := Lib.hid hmem
        have Hw := Lib.hid hw
        have Hmm := Lib.hid hmm
        have Hv := Lib.hid hv
        have Hu := Lib.hid hu
        clear hall hmem hw hv hu hmm
        rcases Int.lt_or_le u 0 with h0 | h0
        · go_wp2
          go_ret
          refine ⟨ret_int ?_, hbel⟩
          rw [E0.out, if_neg]
          intro h
          have := List.all_eq_true.1 h u Hmm.out
          simp only [Bool.and_eq_true, decide_eq_true_eq] at this
          omega
        rcases Int.lt_or_le 300 u with h3 | h3
        · go_wp2
          go_ret
          refine ⟨ret_int ?_, hbel⟩
          rw [E0.out, if_neg]
          intro h
          have := List.all_eq_true.1 h u Hmm.out
          simp only [Bool.and_eq_true, decide_eq_true_eq] at this
          omega
        have huv1 : 0 ≤ u * v := Int.mul_nonneg h0 (by omega)
        have huv2 : u * v ≤ 300 * 60 := Int.mul_le_mul h3 hc2 (by omega) (by omega)
        go_wp2
        go_quiet (fail)
        go_wp2
        go_roundw
        case rel => exact ⟨k + 1, by omega, by go_num, by rw [Hw.out], Hmem.out Hall.out h0 h3, drewN_below hbel nq⟩
        case measure => simp only [intOf]; omega
      · have hkn : k = c.length := by omega
        subst hkn
        go_wp2
        go_ret
        refine ⟨ret_int ?_, hbel⟩
        have e := Hlen.out
        rw [E0.out, if_pos, List.take_length, ← e, List.take_length]
        rw [← e, List.take_length] at hall
        refine List.all_eq_true.2 fun x hx => ?_
        have := hall x hx
        simp only [Bool.and_eq_true, decide_eq_true_eq]
        omega
  · have e0 : wrt c m = -1 := by unfold wrt; rw [if_pos hlen]
    rw [e0]
    clear e0
    have hne : ((m.length : Int) != (c.length : Int)) = true := by rw [bne_iff_ne]; omega
    clear hlen
    go_enter Try.func10, Try.ntmps10
    go_wp2
    go_ret
    exact ⟨rfl, Below.refl _ _⟩

/-! ### Always -/
def AlwOk (c : List Int) (is : Bool) (least : Nat) : Prop :=
  (is = true ∧ least = 0 ∧ ∀ s : Nat, (s : Int) ≤ 2 * c.getD (c.length - 1) 0 → G c s = F c s) ∨
  (is = false ∧ (least : Int) ≤ 2 * c.getD (c.length - 1) 0 ∧ F c least < G c least ∧ ∀ y : Nat, y < least → G c y = F c y)
def AlwPost (c : List Int) (w : World) (e : Ending) (w' : World) : Prop :=
  ∃ is least, AlwOk c is least ∧ e = .returned (.tuple #[.bool is, .int .i64 (least : Nat), .nilIface]) ∧ Below w.heap.size w w'

theorem Always_no (c : List Int) (a : Option Addr) (cap : Nat) (w : World) (hx : Ints w a c) (hl : c.length ≤ 9223372036854775807) (h : chk c ≠ 0) :
    Calls Try.prog 11 #[.slice a c.length cap] w fun e w' => e = .returned (.tuple #[.bool false, .int .i64 0, .iface 39 (.int .i64 (chk c))]) ∧ w = w' := by
  have H := Lib.hid h
  clear h
  go_enter Try.func11, Try.ntmps11
  go_wp2_with (go_at_call 15; refine (check_no c a cap _ hx hl H.out).mono ?_; rintro e w' ⟨rfl, rfl⟩)
  go_ret3
  exact ⟨rfl, rfl⟩

theorem G_le (c : List Int) (h : Up c) (s : Nat) : G c s ≤ s := by
  have hw := grd_worth c h.one c.length h.ne (Nat.le_refl _) (s : Int)
  rw [List.take_length] at hw
  have := sum_le_worth c (grd c c.length s) h.ok.pos (grd_nonneg c h.ok.pos c.length (Nat.le_refl _) s (by omega)) (grd_length _ _ _)
  rw [hw] at this; exact this

theorem Always_yes (c : List Int) (a : Option Addr) (cap : Nat) (w : World) (hx : Ints w a c) (h : chk c = 0) :
    Calls Try.prog 11 #[.slice a c.length cap] w fun e w' => AlwPost c w e w' := by
  have hf := chk_fine h
  have H := Lib.hid h
  clear h
  have hl := hf.short
  have hn := hf.up.ne
  obtain ⟨b, off, rfl, hcell⟩ := hx.open hn
  have hct := hcell (c.length - 1) (by omega)
  have t1 := hf.up.ge1 (c.length - 1) (by omega)
  have t2 := hf.small (c.length - 1) (by omega)
  clear hcell
  obtain ⟨t, ht⟩ := Int.eq_ofNat_of_zero_le (show 0 ≤ c.getD (c.length - 1) 0 by omega)
  rw [ht] at hct t1 t2
  have Ht := Lib.hid ht
  clear ht
  have en : (2 : Int) * (t : Int) = ((2 * t : Nat) : Int) := by omega
  go_enter Try.func11, Try.ntmps11
  go_wp2_with fail
  refine (check_yes c _ cap _ hx (by omega) H.out).mono ?_
  rintro e w' ⟨rfl, rfl⟩
  clear en
  go_wp2_with fail
  have fw := fewest_any c (some ⟨b, off, none⟩) cap (2 * t) w hx hf.up.ok hl (by omega)
  rw [show (((2 * t : Nat) : Int)) = 2 * (t : Int) by omega] at fw
  refine fw.mono ?_
  clear fw
  rintro e w1 ⟨g, rfl, hg, hrow, hbel⟩
  rw [fewL_length]
  have hgl := hrow.lt
  go_wp2_with fail
  go_loopw [25] (fun i wr => ∃ k : Nat, k ≤ 2 * t + 1 ∧ i = .int .i64 k ∧ (∀ y : Nat, y < k → G c y = F c y) ∧ Row wr g 3 (fewL c (2 * t)) ∧ Below w.heap.size w wr ∧ g < wr.heap.size)
    (fun i _ => 2 * t + 1 - (intOf i).toNat)
  case atStart => exact ⟨0, Nat.zero_le _, rfl, fun y hy => by omega, hrow, hbel, hgl⟩
  case round =>
    obtain ⟨k, hk, rfl, hall, hrowr, hbelr, hglr⟩ := hrel
    have Hall := Lib.hid hall
    clear hall
    rcases Nat.lt_or_ge k (2 * t + 1) with hlt | hge
    · have hfk := hrowr.cell k (by rw [fewL_length]; exact hlt)
      rw [fewL_getD c (2 * t) k (by omega)] at hfk
      have hGF := G_ge_F hf.up k
      have hG := G_le c hf.up k
      have hF0 := F_nonneg hf.up.ok k
      have hxr := hx.below hbelr
      generalize hv : F c k = v at hfk hGF hF0
      have Hv := Lib.hid hv
      clear hv
      have t3 : (k : Int) < 2 * (t : Int) + 1 := by omega
      go_wp2_with fail
      refine (greedy_any c (some ⟨b, off, none⟩) cap k _ hxr (fun i hi => hf.up.ge1 i hi) hl (by omega) (by omega)).mono ?_
      rintro e w2 ⟨g2, rfl, hg2, hrow2, hbel2⟩
      go_wp2_with fail
      refine (many_any (grd c c.length k) (some ⟨g2, 0, none⟩) _ _ hrow2.ints (small_of_nonneg _ (grd_nonneg c hf.up.ok.pos _ (Nat.le_refl _) _ (by omega)) (by show G c k ≤ _; omega)) (by rw [grd_length]; omega)).mono ?_
      rintro e w3 ⟨rfl, rfl⟩
      have hrow3 := hrowr.below hbel2 hglr
      have hbel3 := hbelr.trans (hbel2.mono hbelr.size)
      have hgl3 := hrow3.lt
      generalize hGk : (grd c c.length k).sum = Gk
      have hGk' : G c k = Gk := hGk
      rw [hGk'] at hGF hG
      have HGk := Lib.hid hGk'
      clear hGk hGk'
      rcases Int.lt_or_le v Gk with hvG | hvG
      · go_wp2
        go_ret3
        refine ⟨false, k, .inr ⟨rfl, by rw [Ht.out]; omega, by rw [HGk.out, Hv.out]; exact hvG, Hall.out⟩, rfl, hbel3⟩
      · go_wp2
        go_roundw
        case rel =>
          refine ⟨k + 1, by omega, by go_num, fun y hy => ?_, hrow3, hbel3, hgl3⟩
          rcases Nat.lt_or_ge y k with hyk | hyk
          · exact Hall.out y hyk
          · have : y = k := by omega
            subst this
            rw [HGk.out, Hv.out]; omega
        case measure => simp only [intOf]; omega
    · have hkt : k = 2 * t + 1 := by omega
      have Hkt := Lib.hid hkt
      clear hkt
      have t3 : 2 * (t : Int) + 1 ≤ (k : Int) := by omega
      go_wp2
      go_ret3
      refine ⟨true, 0, .inl ⟨rfl, rfl, fun s hs => Hall.out s (by rw [Ht.out] at hs; omega)⟩, rfl, hbelr⟩
end Go.Proofs.Ytlmlnfdkikpphaa
