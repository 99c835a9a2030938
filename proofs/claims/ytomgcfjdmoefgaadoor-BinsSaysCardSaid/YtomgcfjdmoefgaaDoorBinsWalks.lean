/- WALKS: bins.Check, slices.IndexFunc at a closure, bins.fill, bins.First: what each computes. -/
import Derived.Test.YtomgcfjdmoefgaaDoorSumPlain
import Derived.Test.YtomgcfjdmoefgaaDoorInts
import Derived.Test.YtomgcfjdmoefgaaDoorBinsPlain
import Derived.Deep.OwnRows
import Derived.BigRegion
namespace Go.Proofs.YtomgcfjdmoefgaaDoor
open Go Go.RowKit BinsPlain

theorem getD_mem (l : List Int) (k : Nat) (h : k < l.length) : l.getD k 0 ∈ l := by
  rw [List.getD_eq_getElem?_getD, List.getElem?_eq_getElem h]; simp
theorem mem_getD {l : List Int} {n : Int} (hn : n ∈ l) : ∃ i, i < l.length ∧ l.getD i 0 = n := by
  obtain ⟨i, hi, e⟩ := List.mem_iff_getElem.1 hn
  exact ⟨i, hi, by rw [List.getD_eq_getElem?_getD, List.getElem?_eq_getElem hi]; simpa using e⟩

/-! ### Check -/
def chk (sizes : List Int) (room : Int) : Int :=
  if 16 < sizes.length then 4 else if room < 1 ∨ 1000 < room then 1 else if (sizes.all fun n => decide (1 ≤ n) && decide (n ≤ room)) = true then 0 else 1
theorem chk_bad {sizes : List Int} {room : Int} (h : ¬ ∀ n ∈ sizes, 1 ≤ n ∧ n ≤ room) (h1 : sizes.length ≤ 16) : chk sizes room = 1 := by
  unfold chk
  rw [if_neg (by omega)]
  split
  · rfl
  · rw [if_neg]
    intro hh
    apply h
    intro n hn
    have := List.all_eq_true.1 hh n hn
    simpa using this
structure Fine (sizes : List Int) (room : Int) : Prop where
  short : sizes.length ≤ 16
  r1 : 1 ≤ room
  r2 : room ≤ 1000
  all : ∀ n ∈ sizes, 1 ≤ n ∧ n ≤ room
theorem chk_fine {sizes : List Int} {room : Int} (h : chk sizes room = 0) : Fine sizes room := by
  unfold chk at h
  by_cases h1 : 16 < sizes.length
  · rw [if_pos h1] at h; omega
  rw [if_neg h1] at h
  by_cases h2 : room < 1 ∨ 1000 < room
  · rw [if_pos h2] at h; omega
  rw [if_neg h2] at h
  by_cases h3 : (sizes.all fun n => decide (1 ≤ n) && decide (n ≤ room)) = true
  · exact ⟨by omega, by omega, by omega, fun n hn => by have := List.all_eq_true.1 h3 n hn; simpa using this⟩
  · rw [if_neg h3] at h; omega
theorem fine_chk {sizes : List Int} {room : Int} (h : Fine sizes room) : chk sizes room = 0 := by
  unfold chk
  rw [if_neg (by have := h.short; omega), if_neg (by have := h.r1; have := h.r2; omega), if_pos]
  refine List.all_eq_true.2 fun n hn => ?_
  have := h.all n hn
  simpa using this

theorem check_any (sizes : List Int) (room : Int) (a : Option Addr) (cap : Nat) (w : World) (hx : Ints w a sizes) (hl : sizes.length ≤ 9223372036854775807) :
    Calls Tryd.prog 35 #[.slice a sizes.length cap, .int .i64 room] w fun e w' => e = .returned (errV 81 (chk sizes room)) ∧ w = w' := by
  by_cases h1 : 16 < sizes.length
  · have e : chk sizes room = 4 := by unfold chk; rw [if_pos h1]
    rw [e, errV_bad (by decide)]
    clear e
    have h1' : (16 : Int) < sizes.length := by omega
    go_enter Tryd.func35, Tryd.ntmps35
    go_wp2
    go_ret
    exact ⟨rfl, rfl⟩
  have h1' : (sizes.length : Int) ≤ 16 := by omega
  by_cases h2 : room < 1 ∨ 1000 < room
  · have e : chk sizes room = 1 := by unfold chk; rw [if_neg h1, if_pos h2]
    rw [e, errV_bad (by decide)]
    have H2 := Lib.hid h2
    clear e h1 h2
    go_enter Tryd.func35, Tryd.ntmps35
    go_wp2_with (go_at_call 58; refine (within_no room 1 1000 H2.out _).mono ?_; rintro e w' ⟨rfl, rfl⟩)
    go_ret
    exact ⟨rfl, rfl⟩
  have r1 : 1 ≤ room := by omega
  have r2 : room ≤ 1000 := by omega
  have hlen : sizes.length ≤ 16 := by omega
  clear h1 h2
  go_enter Tryd.func35, Tryd.ntmps35
  go_wp2_with (go_at_call 58; refine (within_yes room 1 1000 r1 r2 _).mono ?_; rintro e w' ⟨rfl, rfl⟩)
  go_loop [17] (fun i => ∃ k : Nat, k ≤ sizes.length ∧ i = .int .i64 k ∧ ∀ j, j < k → 1 ≤ sizes.getD j 0 ∧ sizes.getD j 0 ≤ room) (fun i => sizes.length - (intOf i).toNat)
  case atStart => exact ⟨0, Nat.zero_le _, rfl, fun j hj => by omega⟩
  case round =>
    obtain ⟨k, hk, rfl, hall⟩ := hrel
    have Hall := Lib.hid hall
    clear hall
    rcases Nat.lt_or_ge k sizes.length with hlt | hge
    · obtain ⟨b, off, rfl, hc⟩ := hx.open (by omega)
      have hck := hc k hlt
      have hm := getD_mem sizes k hlt
      clear hc
      generalize hv : sizes.getD k 0 = v at hck hm
      have Hv := Lib.hid hv
      have Hm := Lib.hid hm
      clear hv hm
      by_cases hr : v < 1 ∨ room < v
      · have Hr := Lib.hid hr
        clear hr
        go_wp2_with (go_at_call 58; refine (within_no v 1 room Hr.out _).mono ?_; rintro e w' ⟨rfl, rfl⟩)
        go_ret
        refine ⟨?_, rfl⟩
        rw [chk_bad (fun h => by have := h v Hm.out; have := Hr.out; omega) hlen]; rfl
      · have v1 : 1 ≤ v := by omega
        have v2 : v ≤ room := by omega
        clear hr
        go_wp2_with (go_at_call 58; refine (within_yes v 1 room v1 v2 _).mono ?_; rintro e w' ⟨rfl, rfl⟩)
        go_round
        case rel =>
          refine ⟨k + 1, by omega, by go_num, fun j hj => ?_⟩
          rcases Nat.lt_or_ge j k with h | h
          · exact Hall.out j h
          · have : j = k := by omega
            subst this; rw [Hv.out]; exact ⟨v1, v2⟩
        case measure => simp only [intOf]; omega
    · have hkn : k = sizes.length := by omega
      have Hkn := Lib.hid hkn
      clear hkn
      have h3 : ((sizes.length : Nat) : Int) ≤ (k : Int) := by omega
      go_wp2
      go_ret
      refine ⟨?_, rfl⟩
      rw [fine_chk ⟨hlen, r1, r2, fun n hn => by obtain ⟨i, hi, rfl⟩ := mem_getD hn; exact Hall.out i (by rw [Hkn.out]; exact hi)⟩]; rfl
theorem check_yes (sizes : List Int) (room : Int) (a : Option Addr) (cap : Nat) (w : World) (hx : Ints w a sizes) (hl : sizes.length ≤ 9223372036854775807) (h : chk sizes room = 0) :
    Calls Tryd.prog 35 #[.slice a sizes.length cap, .int .i64 room] w fun e w' => e = .returned .nilIface ∧ w = w' :=
  (check_any sizes room a cap w hx hl).mono fun _ _ ⟨he, hw⟩ => ⟨by rw [he, h]; rfl, hw⟩
theorem check_no (sizes : List Int) (room : Int) (a : Option Addr) (cap : Nat) (w : World) (hx : Ints w a sizes) (hl : sizes.length ≤ 9223372036854775807) (h : chk sizes room ≠ 0) :
    Calls Tryd.prog 35 #[.slice a sizes.length cap, .int .i64 room] w fun e w' => e = .returned (.iface 81 (.int .i64 (chk sizes room))) ∧ w = w' :=
  (check_any sizes room a cap w hx hl).mono fun _ _ ⟨he, hw⟩ => ⟨by rw [he, errV_bad h], hw⟩

/-! ### IndexFunc with fill's closure: the first box that has room -/
theorem closure_any (x v : Int) (sizes : List Int) (a : Option Addr) (cap : Nat) (i : Nat) (p q : Nat) (w : World) (hi : i < sizes.length) (hl : sizes.length ≤ 16)
    (hx : Ints w a sizes) (hp : w.cell? ⟨p, 0, none⟩ = some (.slice a sizes.length cap)) (hq : w.cell? ⟨q, 0, none⟩ = some (.int .i64 i)) (hv : sizes.getD i 0 = v) :
    Calls Tryd.prog 89 #[.int .i64 x, .pointer (some ⟨p, 0, none⟩), .pointer (some ⟨q, 0, none⟩)] w fun e w' => e = .returned (.bool (decide (v ≤ x))) ∧ w = w' := by
  obtain ⟨b, off, rfl, hc⟩ := hx.open (by omega)
  have hck := hc i hi
  clear hc
  rw [hv] at hck
  have Hv := Lib.hid hv
  clear hv
  go_enter Tryd.func89, Tryd.ntmps89
  go_wp2
  go_ret
  exact ⟨rfl, rfl⟩

/-- what IndexFunc tells -/
def foundI (l : List Int) (s : Int) : Int := if fitIdx l s < l.length then (fitIdx l s : Nat) else -1

theorem indexFunc_any (l : List Int) (al : Option Addr) (capl : Nat) (s : Int) (sizes : List Int) (a : Option Addr) (cap : Nat) (i : Nat) (p q : Nat) (w : World) (hi : i < sizes.length) (hl : sizes.length ≤ 16)
    (hx : Ints w a sizes) (hp : w.cell? ⟨p, 0, none⟩ = some (.slice a sizes.length cap)) (hq : w.cell? ⟨q, 0, none⟩ = some (.int .i64 i)) (hv : sizes.getD i 0 = s)
    (hy : Ints w al l) (hll : l.length ≤ 16) :
    Calls Tryd.prog 88 #[.slice al l.length capl, .func (.func 89) #[] #[.pointer (some ⟨p, 0, none⟩), .pointer (some ⟨q, 0, none⟩)]] w
      fun e w' => e = .returned (.int .i64 (foundI l s)) ∧ w = w' := by
  have C := fun x => closure_any x s sizes a cap i p q w hi hl hx hp hq hv
  have HC := Lib.hid C
  clear C hp hq hv hx
  go_enter Tryd.func88, Tryd.ntmps88
  go_wp2
  go_loop [8] (fun i => ∃ k : Nat, k ≤ l.length ∧ i = .int .i64 k ∧ ∀ j, j < k → l.getD j 0 < s) (fun i => l.length - (intOf i).toNat)
  case atStart => exact ⟨0, Nat.zero_le _, rfl, fun j hj => by omega⟩
  case round =>
    obtain ⟨k, hk, rfl, hall⟩ := hrel
    have Hall := Lib.hid hall
    clear hall
    rcases Nat.lt_or_ge k l.length with hlt | hge
    · obtain ⟨b, off, rfl, hc⟩ := hy.open (by omega)
      have hck := hc k hlt
      clear hc
      generalize hv : l.getD k 0 = v at hck
      have Hv := Lib.hid hv
      clear hv
      rcases Int.lt_or_le v s with h | h
      · have hd : decide (s ≤ v) = false := by simp; omega
        go_wp2_with fail
        refine (HC.out v).mono ?_
        rintro e w' ⟨rfl, rfl⟩
        go_wp2
        go_round
        case rel =>
          refine ⟨k + 1, by omega, by go_num, fun j hj => ?_⟩
          rcases Nat.lt_or_ge j k with h' | h'
          · exact Hall.out j h'
          · have : j = k := by omega
            subst this; rw [Hv.out]; exact h
        case measure => simp only [intOf]; omega
      · go_wp2_with fail
        refine (HC.out v).mono ?_
        rintro e w' ⟨rfl, rfl⟩
        go_wp2
        go_ret
        refine ⟨ret_int ?_, rfl⟩
        have e := fitIdx_eq l s k (by omega) Hall.out (fun _ => by rw [Hv.out]; exact h)
        unfold foundI
        rw [e, if_pos hlt]
    · have hkn : k = l.length := by omega
      have Hkn := Lib.hid hkn
      clear hkn
      have h3 : ((l.length : Nat) : Int) ≤ (k : Int) := by omega
      go_wp2
      go_ret
      refine ⟨ret_int ?_, rfl⟩
      have e := fitIdx_eq l s l.length (Nat.le_refl _) (fun j hj => Hall.out j (by rw [Hkn.out]; exact hj)) (fun h => by omega)
      unfold foundI
      rw [e, if_neg (Nat.lt_irrefl _)]
end Go.Proofs.YtomgcfjdmoefgaaDoor
