/- WALKS: share.Check, slices.Min, Max, Index, share.give, share.places, share.List, share.Load: what each computes. -/
import Derived.Test.YtomgcfjdmoefgaaDoorSumPlain
import Derived.Test.YtomgcfjdmoefgaaDoorInts
import Derived.Test.YtomgcfjdmoefgaaDoorShareLaw
import Derived.Deep.OwnRows
import Derived.BigRegion
namespace Go.Proofs.YtomgcfjdmoefgaaDoor
open Go Go.RowKit SharePlain PackPlain ShareLaw

theorem getD_mem (l : List Int) (k : Nat) (h : k < l.length) : l.getD k 0 ∈ l := by
  rw [List.getD_eq_getElem?_getD, List.getElem?_eq_getElem h]; simp
theorem mem_getD {l : List Int} {n : Int} (hn : n ∈ l) : ∃ i, i < l.length ∧ l.getD i 0 = n := by
  obtain ⟨i, hi, e⟩ := List.mem_iff_getElem.1 hn
  exact ⟨i, hi, by rw [List.getD_eq_getElem?_getD, List.getElem?_eq_getElem hi]; simpa using e⟩

/-! ### Check -/
def chk (times : List Int) (mach : Int) : Int :=
  if 16 < times.length then 4 else if mach < 1 ∨ 6 < mach then 1 else if (times.all fun n => decide (1 ≤ n) && decide (n ≤ 1000)) = true then 0 else 1
theorem chk_bad {times : List Int} {mach : Int} (h : ¬ ∀ n ∈ times, 1 ≤ n ∧ n ≤ 1000) (h1 : times.length ≤ 16) : chk times mach = 1 := by
  unfold chk
  rw [if_neg (by omega)]
  split
  · rfl
  · rw [if_neg]
    intro hh
    apply h
    intro n hn
    have := List.all_eq_true.1 hh n hn
    simpa using this
structure Fine (times : List Int) (mach : Int) : Prop where
  short : times.length ≤ 16
  r1 : 1 ≤ mach
  r2 : mach ≤ 6
  all : ∀ n ∈ times, 1 ≤ n ∧ n ≤ 1000
theorem chk_fine {times : List Int} {mach : Int} (h : chk times mach = 0) : Fine times mach := by
  unfold chk at h
  by_cases h1 : 16 < times.length
  · rw [if_pos h1] at h; omega
  rw [if_neg h1] at h
  by_cases h2 : mach < 1 ∨ 6 < mach
  · rw [if_pos h2] at h; omega
  rw [if_neg h2] at h
  by_cases h3 : (times.all fun n => decide (1 ≤ n) && decide (n ≤ 1000)) = true
  · exact ⟨by omega, by omega, by omega, fun n hn => by have := List.all_eq_true.1 h3 n hn; simpa using this⟩
  · rw [if_neg h3] at h; omega
theorem fine_chk {times : List Int} {mach : Int} (h : Fine times mach) : chk times mach = 0 := by
  unfold chk
  rw [if_neg (by have := h.short; omega), if_neg (by have := h.r1; have := h.r2; omega), if_pos]
  refine List.all_eq_true.2 fun n hn => ?_
  have := h.all n hn
  simpa using this
theorem Fine.nonneg {times : List Int} {mach : Int} (h : Fine times mach) : ∀ t ∈ times, 0 ≤ t := fun t ht => by have := (h.all t ht).1; omega
theorem Fine.sum {times : List Int} {mach : Int} (h : Fine times mach) : 0 ≤ times.sum ∧ times.sum ≤ 16000 := by
  have h1 := (take_sum_le times h.nonneg times.length).1
  rw [List.take_length] at h1
  have := sum_le_const times 1000 (fun n hn => (h.all n hn).2)
  have := h.short
  omega

theorem check_any (times : List Int) (mach : Int) (a : Option Addr) (cap : Nat) (w : World) (hx : Ints w a times) (hl : times.length ≤ 9223372036854775807) :
    Calls Tryd.prog 49 #[.slice a times.length cap, .int .i64 mach] w fun e w' => e = .returned (errV 81 (chk times mach)) ∧ w = w' := by
  by_cases h1 : 16 < times.length
  · have e : chk times mach = 4 := by unfold chk; rw [if_pos h1]
    rw [e, errV_bad (by decide)]
    clear e
    have h1' : (16 : Int) < times.length := by omega
    go_enter Tryd.func49, Tryd.ntmps49
    go_wp2
    go_ret
    exact ⟨rfl, rfl⟩
  have h1' : (times.length : Int) ≤ 16 := by omega
  by_cases h2 : mach < 1 ∨ 6 < mach
  · have e : chk times mach = 1 := by unfold chk; rw [if_neg h1, if_pos h2]
    rw [e, errV_bad (by decide)]
    have H2 := Lib.hid h2
    clear e h1 h2
    go_enter Tryd.func49, Tryd.ntmps49
    go_wp2_with (go_at_call 58; refine (within_no mach 1 6 H2.out _).mono ?_; rintro e w' ⟨rfl, rfl⟩)
    go_ret
    exact ⟨rfl, rfl⟩
  have r1 : 1 ≤ mach := by omega
  have r2 : mach ≤ 6 := by omega
  have hlen : times.length ≤ 16 := by omega
  clear h1 h2
  go_enter Tryd.func49, Tryd.ntmps49
  go_wp2_with (go_at_call 58; refine (within_yes mach 1 6 r1 r2 _).mono ?_; rintro e w' ⟨rfl, rfl⟩)
  go_loop [17] (fun i => ∃ k : Nat, k ≤ times.length ∧ i = .int .i64 k ∧ ∀ j, j < k → 1 ≤ times.getD j 0 ∧ times.getD j 0 ≤ 1000) (fun i => times.length - (intOf i).toNat)
  case atStart => exact ⟨0, Nat.zero_le _, rfl, fun j hj => by omega⟩
  case round =>
    obtain ⟨k, hk, rfl, hall⟩ := hrel
    have Hall := Lib.hid hall
    clear hall
    rcases Nat.lt_or_ge k times.length with hlt | hge
    · obtain ⟨b, off, rfl, hc⟩ := hx.open (by omega)
      have hck := hc k hlt
      have hm := getD_mem times k hlt
      clear hc
      generalize hv : times.getD k 0 = v at hck hm
      have Hv := Lib.hid hv
      have Hm := Lib.hid hm
      clear hv hm
      by_cases hr : v < 1 ∨ 1000 < v
      · have Hr := Lib.hid hr
        clear hr
        go_wp2_with (go_at_call 58; refine (within_no v 1 1000 Hr.out _).mono ?_; rintro e w' ⟨rfl, rfl⟩)
        go_ret
        refine ⟨?_, rfl⟩
        rw [chk_bad (fun h => by have := h v Hm.out; have := Hr.out; omega) hlen]; rfl
      · have v1 : 1 ≤ v := by omega
        have v2 : v ≤ 1000 := by omega
        clear hr
        go_wp2_with (go_at_call 58; refine (within_yes v 1 1000 v1 v2 _).mono ?_; rintro e w' ⟨rfl, rfl⟩)
        go_round
        case rel =>
          refine ⟨k + 1, by omega, by go_num, fun j hj => ?_⟩
          rcases Nat.lt_or_ge j k with h | h
          · exact Hall.out j h
          · have : j = k := by omega
            subst this; rw [Hv.out]; exact ⟨v1, v2⟩
        case measure => simp only [intOf]; omega
    · have hkn : k = times.length := by omega
      have Hkn := Lib.hid hkn
      clear hkn
      have h3 : ((times.length : Nat) : Int) ≤ (k : Int) := by omega
      go_wp2
      go_ret
      refine ⟨?_, rfl⟩
      rw [fine_chk ⟨hlen, r1, r2, fun n hn => by obtain ⟨i, hi, rfl⟩ := mem_getD hn; exact Hall.out i (by rw [Hkn.out]; exact hi)⟩]; rfl
theorem check_yes (times : List Int) (mach : Int) (a : Option Addr) (cap : Nat) (w : World) (hx : Ints w a times) (hl : times.length ≤ 9223372036854775807) (h : chk times mach = 0) :
    Calls Tryd.prog 49 #[.slice a times.length cap, .int .i64 mach] w fun e w' => e = .returned .nilIface ∧ w = w' :=
  (check_any times mach a cap w hx hl).mono fun _ _ ⟨he, hw⟩ => ⟨by rw [he, h]; rfl, hw⟩
theorem check_no (times : List Int) (mach : Int) (a : Option Addr) (cap : Nat) (w : World) (hx : Ints w a times) (hl : times.length ≤ 9223372036854775807) (h : chk times mach ≠ 0) :
    Calls Tryd.prog 49 #[.slice a times.length cap, .int .i64 mach] w fun e w' => e = .returned (.iface 81 (.int .i64 (chk times mach))) ∧ w = w' :=
  (check_any times mach a cap w hx hl).mono fun _ _ ⟨he, hw⟩ => ⟨by rw [he, errV_bad h], hw⟩


/-! ### slices.Min, Max, Index -/
def IsMax (l : List Int) (v : Int) : Prop := (∃ j, j < l.length ∧ l.getD j 0 = v) ∧ ∀ j, j < l.length → l.getD j 0 ≤ v
def IsMin (l : List Int) (v : Int) : Prop := (∃ j, j < l.length ∧ l.getD j 0 = v) ∧ ∀ j, j < l.length → v ≤ l.getD j 0
theorem isMax_eq {l : List Int} {v : Int} (h : IsMax l v) : v = maxL l := by
  obtain ⟨⟨j, hj, e⟩, h2⟩ := h
  have h1 := maxL_ge l _ (getD_mem l j hj)
  obtain ⟨i, hi, e'⟩ := mem_getD (maxL_mem l (by intro e; rw [e] at hj; simp at hj))
  have := h2 i hi
  omega

theorem Max_any (l : List Int) (a : Option Addr) (cap : Nat) (w : World) (hx : Ints w a l) (h0 : 0 < l.length) (hl : l.length ≤ 1000) :
    Calls Tryd.prog 85 #[.slice a l.length cap] w fun e w' => (∃ v, e = .returned (.int .i64 v) ∧ IsMax l v) ∧ w = w' := by
  obtain ⟨b, off, rfl, hc⟩ := hx.open h0
  have hc0 : w.cell? ⟨b, off, none⟩ = some (.int .i64 (l.getD 0 0)) := hc 0 h0
  have h1 : (1 : Int) ≤ l.length := by omega
  have hv0 : ∃ j, j < 1 ∧ l.getD j 0 = l.getD 0 0 := ⟨0, by omega, rfl⟩
  have hv1 : ∀ j, j < 1 → l.getD j 0 ≤ l.getD 0 0 := fun j hj => by
    obtain rfl : j = 0 := by omega
    exact Int.le_refl _
  generalize l.getD 0 0 = v0 at hc0 hv0 hv1
  have Hv0 := Lib.hid hv0
  have Hv1 := Lib.hid hv1
  clear hv0 hv1
  go_enter Tryd.func85, Tryd.ntmps85
  go_wp2
  go_loop [3, 4] (fun m i => ∃ (k : Nat) (v : Int), k ≤ l.length ∧ i = .int .i64 k ∧ m = .int .i64 v ∧ 1 ≤ k ∧ (∃ j, j < k ∧ l.getD j 0 = v) ∧ ∀ j, j < k → l.getD j 0 ≤ v) (fun _ i => l.length - (intOf i).toNat)
  case atStart => exact ⟨1, v0, by omega, rfl, rfl, Nat.le_refl _, Hv0.out, Hv1.out⟩
  case round =>
    obtain ⟨k, v, hk, rfl, rfl, hk1, hex, hall⟩ := hrel
    have Hex := Lib.hid hex
    have Hall := Lib.hid hall
    clear hex hall
    rcases Nat.lt_or_ge k l.length with hlt | hge
    · have hck := hc k hlt
      have hE : ∀ u, u = l.getD k 0 → (∃ j, j < k + 1 ∧ l.getD j 0 = max v u) ∧ ∀ j, j < k + 1 → l.getD j 0 ≤ max v u := fun u hu => by
        subst hu
        refine ⟨?_, fun j hj => ?_⟩
        · rcases Int.le_total v (l.getD k 0) with h | h
          · exact ⟨k, by omega, (Int.max_eq_right h).symm⟩
          · obtain ⟨j, hj, e⟩ := Hex.out
            exact ⟨j, by omega, by rw [Int.max_eq_left h]; exact e⟩
        · rcases Nat.lt_or_ge j k with h | h
          · have := Hall.out j h; omega
          · have : j = k := by omega
            subst this; exact Int.le_max_right _ _
      have HE := Lib.hid hE
      clear hc hE
      generalize hu : l.getD k 0 = u at hck
      have Hu := Lib.hid hu
      clear hu
      go_wp2
      all_goals
        go_round
        case rel =>
          have e : (if v < u then u else v) = max v u := by rw [Int.max_def]; split <;> split <;> omega
          refine ⟨k + 1, _, by omega, by go_num, rfl, by omega, ?_⟩
          rw [e]; exact HE.out u Hu.out.symm
        case measure => simp only [intOf]; omega
    · have hkn : k = l.length := by omega
      have Hkn := Lib.hid hkn
      clear hkn
      have h3 : ((l.length : Nat) : Int) ≤ (k : Int) := by omega
      go_wp2
      go_ret
      exact ⟨⟨_, rfl, by have := Hex.out; rwa [Hkn.out] at this, by have := Hall.out; rwa [Hkn.out] at this⟩, rfl⟩

theorem Min_any (l : List Int) (a : Option Addr) (cap : Nat) (w : World) (hx : Ints w a l) (h0 : 0 < l.length) (hl : l.length ≤ 1000) :
    Calls Tryd.prog 94 #[.slice a l.length cap] w fun e w' => (∃ v, e = .returned (.int .i64 v) ∧ IsMin l v) ∧ w = w' := by
  obtain ⟨b, off, rfl, hc⟩ := hx.open h0
  have hc0 : w.cell? ⟨b, off, none⟩ = some (.int .i64 (l.getD 0 0)) := hc 0 h0
  have h1 : (1 : Int) ≤ l.length := by omega
  have hv0 : ∃ j, j < 1 ∧ l.getD j 0 = l.getD 0 0 := ⟨0, by omega, rfl⟩
  have hv1 : ∀ j, j < 1 → l.getD 0 0 ≤ l.getD j 0 := fun j hj => by
    obtain rfl : j = 0 := by omega
    exact Int.le_refl _
  generalize l.getD 0 0 = v0 at hc0 hv0 hv1
  have Hv0 := Lib.hid hv0
  have Hv1 := Lib.hid hv1
  clear hv0 hv1
  go_enter Tryd.func94, Tryd.ntmps94
  go_wp2
  go_loop [3, 4] (fun m i => ∃ (k : Nat) (v : Int), k ≤ l.length ∧ i = .int .i64 k ∧ m = .int .i64 v ∧ 1 ≤ k ∧ (∃ j, j < k ∧ l.getD j 0 = v) ∧ ∀ j, j < k → v ≤ l.getD j 0) (fun _ i => l.length - (intOf i).toNat)
  case atStart => exact ⟨1, v0, by omega, rfl, rfl, Nat.le_refl _, Hv0.out, Hv1.out⟩
  case round =>
    obtain ⟨k, v, hk, rfl, rfl, hk1, hex, hall⟩ := hrel
    have Hex := Lib.hid hex
    have Hall := Lib.hid hall
    clear hex hall
    rcases Nat.lt_or_ge k l.length with hlt | hge
    · have hck := hc k hlt
      have hE : ∀ u, u = l.getD k 0 → (∃ j, j < k + 1 ∧ l.getD j 0 = min v u) ∧ ∀ j, j < k + 1 → min v u ≤ l.getD j 0 := fun u hu => by
        subst hu
        refine ⟨?_, fun j hj => ?_⟩
        · rcases Int.le_total v (l.getD k 0) with h | h
          · obtain ⟨j, hj, e⟩ := Hex.out
            exact ⟨j, by omega, by rw [Int.min_eq_left h]; exact e⟩
          · exact ⟨k, by omega, (Int.min_eq_right h).symm⟩
        · rcases Nat.lt_or_ge j k with h | h
          · have := Hall.out j h; omega
          · have : j = k := by omega
            subst this; exact Int.min_le_right _ _
      have HE := Lib.hid hE
      clear hc hE
      generalize hu : l.getD k 0 = u at hck
      have Hu := Lib.hid hu
      clear hu
      go_wp2
      all_goals
        go_round
        case rel =>
          have e : (if u < v then u else v) = min v u := by rw [Int.min_def]; split <;> split <;> omega
          refine ⟨k + 1, _, by omega, by go_num, rfl, by omega, ?_⟩
          rw [e]; exact HE.out u Hu.out.symm
        case measure => simp only [intOf]; omega
    · have hkn : k = l.length := by omega
      have Hkn := Lib.hid hkn
      clear hkn
      have h3 : ((l.length : Nat) : Int) ≤ (k : Int) := by omega
      go_wp2
      go_ret
      exact ⟨⟨_, rfl, by have := Hex.out; rwa [Hkn.out] at this, by have := Hall.out; rwa [Hkn.out] at this⟩, rfl⟩

theorem Index_any (l : List Int) (v : Int) (a : Option Addr) (cap : Nat) (w : World) (hx : Ints w a l) (hv : ∃ j, j < l.length ∧ l.getD j 0 = v) (hl : l.length ≤ 1000) :
    Calls Tryd.prog 93 #[.slice a l.length cap, .int .i64 v] w fun e w' => (∃ k : Nat, e = .returned (.int .i64 k) ∧ k < l.length ∧ l.getD k 0 = v ∧ ∀ j, j < k → l.getD j 0 ≠ v) ∧ w = w' := by
  have Hv := Lib.hid hv
  clear hv
  go_enter Tryd.func93, Tryd.ntmps93
  go_wp2
  go_loop [8] (fun i => ∃ k : Nat, k ≤ l.length ∧ i = .int .i64 k ∧ ∀ j, j < k → l.getD j 0 ≠ v) (fun i => l.length - (intOf i).toNat)
  case atStart => exact ⟨0, Nat.zero_le _, rfl, fun j hj => by omega⟩
  case round =>
    obtain ⟨k, hk, rfl, hall⟩ := hrel
    have Hall := Lib.hid hall
    clear hall
    rcases Nat.lt_or_ge k l.length with hlt | hge
    · obtain ⟨b, off, rfl, hc⟩ := hx.open (by omega)
      have hck := hc k hlt
      clear hc
      generalize hu : l.getD k 0 = u at hck
      have Hu := Lib.hid hu
      clear hu
      by_cases hvu : v = u
      · subst hvu
        go_wp2
        go_ret
        exact ⟨⟨k, rfl, hlt, Hu.out, Hall.out⟩, rfl⟩
      · have hne : (v == u) = false := beq_eq_false_iff_ne.2 hvu
        have Hne := Lib.hid hvu
        clear hvu
        go_wp2
        go_round
        case rel =>
          refine ⟨k + 1, by omega, by go_num, fun j hj => ?_⟩
          rcases Nat.lt_or_ge j k with h | h
          · exact Hall.out j h
          · have : j = k := by omega
            subst this; rw [Hu.out]; exact fun e => Hne.out e.symm
        case measure => simp only [intOf]; omega
    · exfalso
      obtain ⟨j, hj, e⟩ := Hv.out
      exact Hall.out j (by omega) e
theorem least_eq {l : List Int} {v : Int} (hm : IsMin l v) {k : Nat} (hk : k < l.length) (e : l.getD k 0 = v) (hf : ∀ j, j < k → l.getD j 0 ≠ v) : k = leastIdx l := by
  have h0 : l ≠ [] := by intro e; rw [e] at hk; simp at hk
  have h1 := leastIdx_lt l h0
  have h2 := leastIdx_le l k hk
  have h3 := hm.2 _ h1
  rcases Nat.lt_trichotomy k (leastIdx l) with h | h | h
  · have := leastIdx_first l k h; omega
  · exact h
  · exact absurd (by omega) (hf _ h)
end Go.Proofs.YtomgcfjdmoefgaaDoor
