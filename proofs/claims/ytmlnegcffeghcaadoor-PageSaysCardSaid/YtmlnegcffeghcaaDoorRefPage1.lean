/- WALKS: the document's place, next, Asks; ricksteadsame.Bools. -/
import Derived.Test.YtmlnegcffeghcaaDoorPageCheck
namespace PagePlain
/-- when a page is asked for again, from t on; 60 if never -/
def nxI (l : List Int) (t : Nat) (p : Int) : Int := if p ∈ l.drop t then ((t + (l.drop t).idxOf p : Nat) : Int) else 60
theorem idx_le {p : Int} : ∀ {l : List Int} {i : Nat}, i < l.length → l.getD i 0 = p → l.idxOf p ≤ i
  | [], i, hi, _ => by simp at hi
  | x :: l, 0, _, h => by
    rw [List.getD_cons_zero] at h
    rw [h, List.idxOf_cons_self]; exact Nat.le_refl _
  | x :: l, i + 1, hi, h => by
    rw [List.getD_cons_succ] at h
    have := idx_le (l := l) (i := i) (by simpa using hi) h
    rw [List.idxOf_cons]
    cases hx : (x == p)
    · simp; omega
    · simp
theorem nxI_at {l : List Int} {t k : Nat} {p : Int} (htk : t ≤ k) (hk : k < l.length) (h : l.getD k 0 = p) (hno : ∀ i, t ≤ i → i < k → l.getD i 0 ≠ p) : nxI l t p = k := by
  have hd : (l.drop t).length = l.length - t := List.length_drop
  have hg : ∀ i (hi : i < l.length - t), (l.drop t)[i]'(by omega) = l.getD (t + i) 0 := fun i hi => by
    rw [List.getElem_drop, List.getD_eq_getElem?_getD, List.getElem?_eq_getElem (by omega)]; rfl
  have hm : p ∈ l.drop t := by
    rw [← h, show k = t + (k - t) by omega, ← hg (k - t) (by omega)]
    exact List.getElem_mem _
  have hlt := List.idxOf_lt_length_of_mem hm
  have hat : (l.drop t)[(l.drop t).idxOf p]'hlt = p := List.getElem_idxOf hlt
  unfold nxI
  rw [if_pos hm]
  rcases Nat.lt_trichotomy (t + (l.drop t).idxOf p) k with c | c | c
  · exfalso
    refine hno _ (by omega) c ?_
    rw [← hg _ (by omega)]
    exact hat
  · rw [c]
  · exfalso
    have := idx_le (l := l.drop t) (p := p) (i := k - t) (by omega) (by
      rw [List.getD_eq_getElem?_getD, List.getElem?_eq_getElem (by omega), Option.getD_some, hg _ (by omega), show t + (k - t) = k by omega, h])
    omega
theorem nxI_no {l : List Int} {t : Nat} {p : Int} (hno : ∀ i, t ≤ i → i < l.length → l.getD i 0 ≠ p) : nxI l t p = 60 := by
  unfold nxI
  rw [if_neg]
  intro hm
  obtain ⟨i, hi, e⟩ := List.mem_iff_getElem.1 hm
  have hd : (l.drop t).length = l.length - t := List.length_drop
  refine hno (t + i) (by omega) (by omega) ?_
  rw [← e, List.getElem_drop, List.getD_eq_getElem?_getD, List.getElem?_eq_getElem (by omega)]; rfl
end PagePlain
namespace Go.Proofs.YtmlnegcffeghcaaDoor
open Go Go.RowKit PagePlain

theorem r5in_yes (n lo hi : Int) (h1 : lo ≤ n) (h2 : n ≤ hi) (w : World) : Calls Tryd.prog 14 #[.int .i64 n, .int .i64 lo, .int .i64 hi] w fun e w' => e = .returned (.bool true) ∧ w = w' := by
  go_enter Tryd.func14, Tryd.ntmps14
  go_wp2
  go_ret
  exact ⟨rfl, rfl⟩
theorem r5in_no (n lo hi : Int) (h : n < lo ∨ hi < n) (w : World) : Calls Tryd.prog 14 #[.int .i64 n, .int .i64 lo, .int .i64 hi] w fun e w' => e = .returned (.bool false) ∧ w = w' := by
  rcases Int.lt_or_le n lo with h1 | h1
  · clear h
    go_enter Tryd.func14, Tryd.ntmps14
    go_wp2
    go_ret
    exact ⟨rfl, rfl⟩
  · have h2 : hi < n := by omega
    have h3 : decide (n ≤ hi) = false := decide_eq_false (by omega)
    clear h
    go_enter Tryd.func14, Tryd.ntmps14
    go_wp2
    go_ret
    exact ⟨rfl, rfl⟩
/-! ### place -/
theorem rpl (xs : List Int) (v : Int) (a : Option Addr) (cap : Nat) (w : World) (hx : Ints w a xs) (hl : xs.length ≤ 9223372036854775807) :
    Calls Tryd.prog 17 #[.slice a xs.length cap, .int .i64 v] w fun e w' => e = .returned (.int .i64 (idxI xs v)) ∧ w = w' := by
  go_enter Tryd.func17, Tryd.ntmps17
  go_wp2
  go_loop [5] (fun i => ∃ k : Nat, i = .int .i64 k ∧ k ≤ xs.length ∧ v ∉ xs.take k) (fun i => xs.length - (intOf i).toNat)
  case atStart => exact ⟨0, rfl, Nat.zero_le _, by simp⟩
  case round =>
    obtain ⟨k, rfl, hk, hn⟩ := hrel
    have Hn := Lib.hid hn
    clear hn
    rcases Nat.lt_or_ge k xs.length with hlt | hge
    · obtain ⟨b, o, rfl, hc⟩ := hx.open (by omega)
      have hck := hc k hlt
      clear hc
      generalize hu : xs.getD k 0 = u at hck
      have Hu := Lib.hid hu
      clear hu
      by_cases e : u = v
      · have E := Lib.hid e
        have eB : (u == v) = true := by rw [e]; simp
        clear e
        go_wp2
        go_ret
        exact ⟨ret_int (idxI_at hlt Hn.out (Hu.out.trans E.out)).symm, rfl⟩
      · have eB : (u == v) = false := by rw [beq_eq_false_iff_ne]; exact e
        have E := Lib.hid e
        clear e
        go_wp2
        go_round
        case rel =>
          refine ⟨k + 1, by go_num, by omega, ?_⟩
          rw [take_snocP hlt, List.mem_append, List.mem_singleton]
          rintro (h | h)
          · exact Hn.out h
          · exact E.out (by rw [h, Hu.out])
        case measure => simp only [intOf]; omega
    · obtain rfl : xs.length = k := by omega
      have h3 : decide (xs.length < xs.length) = false := by simp
      go_wp2
      go_ret
      refine ⟨ret_int ?_, rfl⟩
      have h := Hn.out
      rw [List.take_length] at h
      unfold idxI; rw [if_neg h]
/-! ### next -/
theorem rnext (xs : List Int) (t : Nat) (v : Int) (a : Option Addr) (cap : Nat) (w : World) (hx : Ints w a xs) (hl : xs.length ≤ 9223372036854775807) (ht : t ≤ xs.length) :
    Calls Tryd.prog 18 #[.slice a xs.length cap, .int .i64 t, .int .i64 v] w fun e w' => e = .returned (.int .i64 (nxI xs t v)) ∧ w = w' := by
  go_enter Tryd.func18, Tryd.ntmps18
  go_wp2
  go_loop [7] (fun i => ∃ k : Nat, i = .int .i64 k ∧ t ≤ k ∧ k ≤ xs.length ∧ ∀ i, t ≤ i → i < k → xs.getD i 0 ≠ v) (fun i => xs.length - (intOf i).toNat)
  case atStart => exact ⟨t, rfl, Nat.le_refl _, ht, fun i h1 h2 => by omega⟩
  case round =>
    obtain ⟨k, rfl, htk, hk, hn⟩ := hrel
    have Hn := Lib.hid hn
    clear hn
    rcases Nat.lt_or_ge k xs.length with hlt | hge
    · obtain ⟨b, o, rfl, hc⟩ := hx.open (by omega)
      have hck := hc k hlt
      clear hc
      generalize hu : xs.getD k 0 = u at hck
      have Hu := Lib.hid hu
      clear hu
      by_cases e : u = v
      · have E := Lib.hid e
        have eB : (u == v) = true := by rw [e]; simp
        clear e
        go_wp2
        go_ret
        exact ⟨ret_int (nxI_at htk hlt (Hu.out.trans E.out) Hn.out).symm, rfl⟩
      · have eB : (u == v) = false := by rw [beq_eq_false_iff_ne]; exact e
        have E := Lib.hid e
        clear e
        go_wp2
        go_round
        case rel =>
          refine ⟨k + 1, by go_num, by omega, by omega, fun i h1 h2 => ?_⟩
          rcases Nat.lt_or_ge i k with c | c
          · exact Hn.out i h1 c
          · obtain rfl : i = k := by omega
            rw [Hu.out]; exact E.out
        case measure => simp only [intOf]; omega
    · obtain rfl : xs.length = k := by omega
      have h3 : decide (xs.length < xs.length) = false := by simp
      go_wp2
      go_ret
      exact ⟨ret_int (nxI_no Hn.out).symm, rfl⟩
/-! ### Asks -/
theorem rasks (asks : List Int) (frames : Int) (a : Option Addr) (cap : Nat) (w : World) (hx : Ints w a asks) (hl : asks.length ≤ 9223372036854775807) :
    Calls Tryd.prog 4 #[.int .i64 frames, .slice a asks.length cap] w fun e w' => e = .returned (.int .i64 (chkP frames asks)) ∧ w = w' := by
  by_cases h2 : frames < 1 ∨ 8 < frames
  · have e : chkP frames asks = 1 := by unfold chkP; rw [if_pos h2]
    rw [e]
    have H2 := Lib.hid h2
    clear e h2
    go_enter Tryd.func4, Tryd.ntmps4
    go_wp2_with (go_at_call 14; refine (r5in_no frames 1 8 H2.out _).mono ?_; rintro e w' ⟨rfl, rfl⟩)
    go_ret
    exact ⟨rfl, rfl⟩
  have r1 : 1 ≤ frames := by omega
  have r2 : frames ≤ 8 := by omega
  by_cases h1 : 60 < asks.length
  · have e : chkP frames asks = 4 := by unfold chkP; rw [if_neg h2, if_pos h1]
    rw [e]
    clear e
    have h1' : (60 : Int) < asks.length := by omega
    clear h2
    go_enter Tryd.func4, Tryd.ntmps4
    go_wp2_with (go_at_call 14; refine (r5in_yes frames 1 8 r1 r2 _).mono ?_; rintro e w' ⟨rfl, rfl⟩)
    go_ret
    exact ⟨rfl, rfl⟩
  have h1' : (asks.length : Int) ≤ 60 := by omega
  have hlen : asks.length ≤ 60 := by omega
  clear h1 h2
  go_enter Tryd.func4, Tryd.ntmps4
  go_wp2_with (go_at_call 14; refine (r5in_yes frames 1 8 r1 r2 _).mono ?_; rintro e w' ⟨rfl, rfl⟩)
  go_loop [5] (fun i => ∃ k : Nat, k ≤ asks.length ∧ i = .int .i64 k ∧ ∀ j, j < k → 0 ≤ asks.getD j 0 ∧ asks.getD j 0 ≤ 1000000) (fun i => asks.length - (intOf i).toNat)
  case atStart => exact ⟨0, Nat.zero_le _, rfl, fun j hj => by omega⟩
  case round =>
    obtain ⟨k, hk, rfl, hall⟩ := hrel
    have Hall := Lib.hid hall
    clear hall
    rcases Nat.lt_or_ge k asks.length with hlt | hge
    · obtain ⟨b, off, rfl, hc⟩ := hx.open (by omega)
      have hck := hc k hlt
      have hm := getD_in hlt
      clear hc
      generalize hv : asks.getD k 0 = v at hck hm
      have Hv := Lib.hid hv
      have Hm := Lib.hid hm
      clear hv hm
      by_cases hr : v < 0 ∨ 1000000 < v
      · have Hr := Lib.hid hr
        clear hr
        go_wp2_with (go_at_call 14; refine (r5in_no v 0 1000000 Hr.out _).mono ?_; rintro e w' ⟨rfl, rfl⟩)
        go_ret
        exact ⟨ret_int (chkP_bad r1 r2 hlen Hm.out Hr.out).symm, rfl⟩
      · have v1 : 0 ≤ v := by omega
        have v2 : v ≤ 1000000 := by omega
        clear hr
        go_wp2_with (go_at_call 14; refine (r5in_yes v 0 1000000 v1 v2 _).mono ?_; rintro e w' ⟨rfl, rfl⟩)
        go_round
        case rel =>
          refine ⟨k + 1, by omega, by go_num, fun j hj => ?_⟩
          rcases Nat.lt_or_ge j k with h | h
          · exact Hall.out j h
          · have : j = k := by omega
            subst this; rw [Hv.out]; exact ⟨v1, v2⟩
        case measure => simp only [intOf]; omega
    · have hkn : k = asks.length := by omega
      have Hkn := Lib.hid hkn
      clear hkn
      have h3 : ((asks.length : Nat) : Int) ≤ (k : Int) := by omega
      go_wp2
      go_ret
      exact ⟨ret_int (fine_chkP ⟨r1, r2, hlen, fun n hn => by obtain ⟨i, hi, rfl⟩ := in_getD hn; exact Hall.out i (by rw [Hkn.out]; exact hi)⟩).symm, rfl⟩
/-! ### Bools -/
/-- THE SLICE AT `a` READS AS THE BOOLS `b` -/
def Bls (w : World) (a : Option Addr) (b : List Bool) : Prop := b = [] ∨ ∃ g o, a = some ⟨g, o, none⟩ ∧ ∀ i, i < b.length → w.cell? ⟨g, o + i, none⟩ = some (.bool (b.getD i false))
theorem Bls.below {w w' : World} {a : Option Addr} {b : List Bool} (h : Bls w a b) (hb : Below w.heap.size w w') : Bls w' a b := by
  rcases h with h | ⟨g, o, rfl, hc⟩
  · exact .inl h
  · exact .inr ⟨g, o, rfl, fun i hi => by
      have := hc i hi
      rw [hb.cell (p := ⟨g, o + i, none⟩) (World.block_lt_of_cell? w _ this)]
      exact this⟩
theorem bools_same (l : List Bool) (a b : Option Addr) (n cap cap' : Nat) (hn : n = l.length) (w : World) (hx : Bls w a l) (hy : Bls w b l) (hl : l.length ≤ 100000) :
    Calls Tryd.prog 13 #[.slice a n cap, .slice b n cap'] w fun e w' => e = .returned (.bool true) ∧ ∃ q, w' = w.drewN q := by
  subst hn
  have hne : ((l.length : Int) != (l.length : Int)) = false := by simp
  go_enter Tryd.func13, Tryd.ntmps13
  go_wp2
  go_loopw [5] (fun i wr => ∃ k : Nat, i = .int .i64 k ∧ k ≤ l.length ∧ ∃ q, wr = w.drewN q) (fun i _ => l.length - (intOf i).toNat)
  case atStart => exact ⟨0, rfl, Nat.zero_le _, 0, rfl⟩
  case round =>
    obtain ⟨k, rfl, hk, q, rfl⟩ := hrel
    rcases Nat.lt_or_ge k l.length with hlt | hge
    · rcases hx with h | ⟨ga, oa, rfl, hca⟩
      · rw [h] at hlt; simp at hlt
      rcases hy with h | ⟨gb, ob, rfl, hcb⟩
      · rw [h] at hlt; simp at hlt
      have x1 := hca k hlt
      have y1 := hcb k hlt
      have hkI : (k : Int) < (l.length : Int) := by omega
      clear hca hcb
      generalize l.getD k false = u at *
      have hu : (u != u) = false := by simp
      go_wp2
      go_quiet (fail)
      go_wp2
      go_roundw
      case rel => exact ⟨k + 1, by go_num, by omega, _, by first | rfl | rw [World.drewN_drewN]⟩
      case measure => simp only [intOf]; omega
    · obtain rfl : l.length = k := by omega
      have h3 : decide (l.length < l.length) = false := by simp
      go_wp2
      go_ret
      exact ⟨rfl, q, rfl⟩
end Go.Proofs.YtmlnegcffeghcaaDoor
