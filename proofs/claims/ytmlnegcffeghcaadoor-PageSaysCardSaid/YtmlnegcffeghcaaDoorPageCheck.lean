/- WALKS: page.Check, slices.Index, slices.Contains. -/
import Derived.Test.YtmlnegcffeghcaaDoorWithin
import Derived.Test.YtmlnegcffeghcaaDoorPageKinds
namespace Go.Proofs.YtmlnegcffeghcaaDoor
open Go Go.RowKit PagePlain

/-! ### Check -/
def chkP (frames : Int) (asks : List Int) : Int :=
  if frames < 1 ∨ 8 < frames then 1 else if 60 < asks.length then 4 else if (asks.all fun n => decide (0 ≤ n) && decide (n ≤ 1000000)) = true then 0 else 1
structure FineP (frames : Int) (asks : List Int) : Prop where
  r1 : 1 ≤ frames
  r2 : frames ≤ 8
  short : asks.length ≤ 60
  all : ∀ n ∈ asks, 0 ≤ n ∧ n ≤ 1000000
theorem chkP_fine {frames : Int} {asks : List Int} (h : chkP frames asks = 0) : FineP frames asks := by
  unfold chkP at h
  by_cases h2 : frames < 1 ∨ 8 < frames
  · rw [if_pos h2] at h; omega
  rw [if_neg h2] at h
  by_cases h1 : 60 < asks.length
  · rw [if_pos h1] at h; omega
  rw [if_neg h1] at h
  by_cases h3 : (asks.all fun n => decide (0 ≤ n) && decide (n ≤ 1000000)) = true
  · exact ⟨by omega, by omega, by omega, fun n hn => by have := List.all_eq_true.1 h3 n hn; simpa using this⟩
  · rw [if_neg h3] at h; omega
theorem fine_chkP {frames : Int} {asks : List Int} (h : FineP frames asks) : chkP frames asks = 0 := by
  unfold chkP
  rw [if_neg (by have := h.r1; have := h.r2; omega), if_neg (by have := h.short; omega), if_pos]
  refine List.all_eq_true.2 fun n hn => ?_
  have := h.all n hn
  simpa using this
theorem chkP_bad {frames : Int} {asks : List Int} (h1 : 1 ≤ frames) (h2 : frames ≤ 8) (h3 : asks.length ≤ 60) {n : Int} (hn : n ∈ asks) (h : n < 0 ∨ 1000000 < n) : chkP frames asks = 1 := by
  unfold chkP
  rw [if_neg (by omega), if_neg (by omega), if_neg]
  intro hh
  have := List.all_eq_true.1 hh n hn
  simp at this
  omega

theorem checkP_any (asks : List Int) (frames : Int) (a : Option Addr) (cap : Nat) (w : World) (hx : Ints w a asks) (hl : asks.length ≤ 9223372036854775807) :
    Calls Tryd.prog 6 #[.int .i64 frames, .slice a asks.length cap] w fun e w' => e = .returned (errV 37 (chkP frames asks)) ∧ w = w' := by
  by_cases h2 : frames < 1 ∨ 8 < frames
  · have e : chkP frames asks = 1 := by unfold chkP; rw [if_pos h2]
    rw [e, errV_bad (by decide)]
    have H2 := Lib.hid h2
    clear e h2
    go_enter Tryd.func6, Tryd.ntmps6
    go_wp2_with (go_at_call 16; refine (within_no frames 1 8 H2.out _).mono ?_; rintro e w' ⟨rfl, rfl⟩)
    go_ret
    exact ⟨rfl, rfl⟩
  have r1 : 1 ≤ frames := by omega
  have r2 : frames ≤ 8 := by omega
  by_cases h1 : 60 < asks.length
  · have e : chkP frames asks = 4 := by unfold chkP; rw [if_neg h2, if_pos h1]
    rw [e, errV_bad (by decide)]
    clear e
    have h1' : (60 : Int) < asks.length := by omega
    clear h2
    go_enter Tryd.func6, Tryd.ntmps6
    go_wp2_with (go_at_call 16; refine (within_yes frames 1 8 r1 r2 _).mono ?_; rintro e w' ⟨rfl, rfl⟩)
    go_ret
    exact ⟨rfl, rfl⟩
  have h1' : (asks.length : Int) ≤ 60 := by omega
  have hlen : asks.length ≤ 60 := by omega
  clear h1 h2
  go_enter Tryd.func6, Tryd.ntmps6
  go_wp2_with (go_at_call 16; refine (within_yes frames 1 8 r1 r2 _).mono ?_; rintro e w' ⟨rfl, rfl⟩)
  go_loop [17] (fun i => ∃ k : Nat, k ≤ asks.length ∧ i = .int .i64 k ∧ ∀ j, j < k → 0 ≤ asks.getD j 0 ∧ asks.getD j 0 ≤ 1000000) (fun i => asks.length - (intOf i).toNat)
  case atStart => exact ⟨0, Nat.zero_le _, rfl, fun j hj => by omega⟩
  case round =>
    obtain ⟨k, hk, rfl, hall⟩ := hrel
    have Hall := Lib.hid hall
    clear hall
    rcases Nat.lt_or_ge k asks.length with hlt | hge
    · obtain ⟨b, off, rfl, hc⟩ := hx.open (by omega)
      have hck := hc k hlt
      have hm := getD_in hlt
      clear hc
      generalize hv : asks.getD k 0 = v at hck hm
      have Hv := Lib.hid hv
      have Hm := Lib.hid hm
      clear hv hm
      by_cases hr : v < 0 ∨ 1000000 < v
      · have Hr := Lib.hid hr
        clear hr
        go_wp2_with (go_at_call 16; refine (within_no v 0 1000000 Hr.out _).mono ?_; rintro e w' ⟨rfl, rfl⟩)
        go_ret
        refine ⟨?_, rfl⟩
        rw [chkP_bad r1 r2 hlen Hm.out Hr.out]; rfl
      · have v1 : 0 ≤ v := by omega
        have v2 : v ≤ 1000000 := by omega
        clear hr
        go_wp2_with (go_at_call 16; refine (within_yes v 0 1000000 v1 v2 _).mono ?_; rintro e w' ⟨rfl, rfl⟩)
        go_round
        case rel =>
          refine ⟨k + 1, by omega, by go_num, fun j hj => ?_⟩
          rcases Nat.lt_or_ge j k with h | h
          · exact Hall.out j h
          · have : j = k := by omega
            subst this; rw [Hv.out]; exact ⟨v1, v2⟩
        case measure => simp only [intOf]; omega
    · have hkn : k = asks.length := by omega
      have Hkn := Lib.hid hkn
      clear hkn
      have h3 : ((asks.length : Nat) : Int) ≤ (k : Int) := by omega
      go_wp2
      go_ret
      refine ⟨?_, rfl⟩
      rw [fine_chkP ⟨r1, r2, hlen, fun n hn => by obtain ⟨i, hi, rfl⟩ := in_getD hn; exact Hall.out i (by rw [Hkn.out]; exact hi)⟩]; rfl

/-! ### slices.Index, slices.Contains -/
def idxI (xs : List Int) (v : Int) : Int := if v ∈ xs then (xs.idxOf v : Nat) else -1
theorem idxI_at {xs : List Int} {v : Int} {k : Nat} (hk : k < xs.length) (hn : v ∉ xs.take k) (h : xs.getD k 0 = v) : idxI xs v = k := by
  have h1 : xs[k] = v := by rw [List.getD_eq_getElem?_getD, List.getElem?_eq_getElem hk, Option.getD_some] at h; exact h
  have h2 : xs = xs.take k ++ v :: xs.drop (k + 1) := by rw [← h1, ← List.drop_eq_getElem_cons hk, List.take_append_drop]
  have h3 : xs.idxOf v = k := by
    rw [h2, List.idxOf_append, if_neg hn, List.idxOf_cons_self]
    simp; omega
  unfold idxI
  rw [if_pos (by rw [← h1]; exact List.getElem_mem hk), h3]
theorem take_snocP {xs : List Int} {k : Nat} (h : k < xs.length) : xs.take (k + 1) = xs.take k ++ [xs.getD k 0] := by
  rw [List.take_add_one, List.getD_eq_getElem?_getD, List.getElem?_eq_getElem h]; rfl
theorem index_any (xs : List Int) (v : Int) (a : Option Addr) (cap : Nat) (w : World) (hx : Ints w a xs) (hl : xs.length ≤ 9223372036854775807) :
    Calls Tryd.prog 26 #[.slice a xs.length cap, .int .i64 v] w fun e w' => e = .returned (.int .i64 (idxI xs v)) ∧ w = w' := by
  go_enter Tryd.func26, Tryd.ntmps26
  go_wp2
  go_loop [8] (fun i => ∃ k : Nat, i = .int .i64 k ∧ k ≤ xs.length ∧ v ∉ xs.take k) (fun i => xs.length - (intOf i).toNat)
  case atStart => exact ⟨0, rfl, Nat.zero_le _, by simp⟩
  case round =>
    obtain ⟨k, rfl, hk, hn⟩ := hrel
    have Hn := Lib.hid hn
    clear hn
    rcases Nat.lt_or_ge k xs.length with hlt | hge
    · obtain ⟨b, o, rfl, hc⟩ := hx.open (by omega)
      have hck := hc k hlt
      clear hc
      generalize hu : xs.getD k 0 = u at hck
      have Hu := Lib.hid hu
      clear hu
      by_cases e : v = u
      · have E := Lib.hid e
        have eB : (v == u) = true := by rw [e]; simp
        clear e
        go_wp2
        go_ret
        exact ⟨ret_int (idxI_at hlt Hn.out (Hu.out.trans E.out.symm)).symm, rfl⟩
      · have eB : (v == u) = false := by rw [beq_eq_false_iff_ne]; exact e
        have E := Lib.hid e
        clear e
        go_wp2
        go_round
        case rel =>
          refine ⟨k + 1, by go_num, by omega, ?_⟩
          rw [take_snocP hlt, List.mem_append, List.mem_singleton]
          rintro (h | h)
          · exact Hn.out h
          · exact E.out (by rw [h, Hu.out])
        case measure => simp only [intOf]; omega
    · obtain rfl : xs.length = k := by omega
      have h3 : decide (xs.length < xs.length) = false := by simp
      go_wp2
      go_ret
      refine ⟨ret_int ?_, rfl⟩
      have h := Hn.out
      rw [List.take_length] at h
      unfold idxI; rw [if_neg h]
theorem contains_any (xs : List Int) (v : Int) (a : Option Addr) (cap : Nat) (w : World) (hx : Ints w a xs) (hl : xs.length ≤ 9223372036854775807) :
    Calls Tryd.prog 21 #[.slice a xs.length cap, .int .i64 v] w fun e w' => e = .returned (.bool (decide (v ∈ xs))) ∧ w = w' := by
  have h1 := index_any xs v a cap w hx hl
  by_cases h : v ∈ xs
  · have e : idxI xs v = (xs.idxOf v : Nat) := by unfold idxI; rw [if_pos h]
    have hd : decide (v ∈ xs) = true := decide_eq_true h
    rw [e] at h1
    rw [hd]
    have h2 : decide ((0 : Int) ≤ ((xs.idxOf v : Nat) : Int)) = true := decide_eq_true (by omega)
    generalize xs.idxOf v = n at h1 h2
    have H1 := Lib.hid h1
    clear h1 h e hd
    go_enter Tryd.func21, Tryd.ntmps21
    go_wp2_with (go_at_call 26; refine H1.out.mono ?_; rintro e w' ⟨rfl, rfl⟩)
    go_ret
    exact ⟨rfl, rfl⟩
  · have e : idxI xs v = -1 := by unfold idxI; rw [if_neg h]
    have hd : decide (v ∈ xs) = false := decide_eq_false h
    rw [e] at h1
    rw [hd]
    have H1 := Lib.hid h1
    clear h1 h e hd
    go_enter Tryd.func21, Tryd.ntmps21
    go_wp2_with (go_at_call 26; refine H1.out.mono ?_; rintro e w' ⟨rfl, rfl⟩)
    go_ret
    exact ⟨rfl, rfl⟩
end Go.Proofs.YtmlnegcffeghcaaDoor
