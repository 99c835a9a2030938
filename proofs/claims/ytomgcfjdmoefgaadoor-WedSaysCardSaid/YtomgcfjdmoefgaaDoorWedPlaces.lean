/- WALK: wed.places: where each stands in each list. -/
import Derived.Test.YtomgcfjdmoefgaaDoorWedCheck
import Derived.Test.YtomgcfjdmoefgaaDoorWedPlain
namespace Go.Proofs.YtomgcfjdmoefgaaDoor
open Go Go.RowKit

/-- the place of q in a list -/
def plc (xs : List Int) (q : Nat) : Int := (xs.idxOf (q : Int) : Nat)
def plcL (n : Nat) (xs : List Int) : List Int := (List.range n).map (plc xs)
theorem plcL_getD (n : Nat) (xs : List Int) (q : Nat) (hq : q < n) : (plcL n xs).getD q 0 = plc xs q := by
  unfold plcL
  rw [List.getD_eq_getElem?_getD, List.getElem?_map, List.getElem?_range hq]; rfl
theorem plc_at {n : Nat} {xs : List Int} (h : AllOf n xs) (t q : Nat) (ht : t < xs.length) (hq : xs.getD t 0 = q) : plc xs q = t := by
  unfold plc
  rw [List.getD_eq_getElem?_getD, List.getElem?_eq_getElem ht] at hq
  simp only [Option.getD_some] at hq
  rw [← hq, h.once.idxOf_getElem t ht]
theorem all_in {n : Nat} {xs : List Int} (h : AllOf n xs) (q : Nat) (hq : q < n) : (q : Int) ∈ xs := by
  by_cases c : (q : Int) ∈ xs
  · exact c
  · exfalso
    have hm : ∀ k, k < n → xs.getD k 0 ∈ xs := fun k hk => getD_memI (by rw [h.len]; exact hk)
    refine WedPlain.pigeon_miss n (fun k => (xs.getD k 0).toNat) q hq (fun k hk => ?_) (fun j k hj hk e => ?_)
    · have h1 := h.range _ (hm k hk)
      refine ⟨by show (xs.getD k 0).toNat < n; omega, fun e => c ?_⟩
      have e' : (xs.getD k 0).toNat = q := e
      have : (q : Int) = xs.getD k 0 := by omega
      rw [this]; exact hm k hk
    · have h1 := h.range _ (hm j hj)
      have h2 := h.range _ (hm k hk)
      have e' : (xs.getD j 0).toNat = (xs.getD k 0).toNat := e
      have e2 : xs.getD j 0 = xs.getD k 0 := by omega
      rw [List.getD_eq_getElem?_getD, List.getD_eq_getElem?_getD, List.getElem?_eq_getElem (by rw [h.len]; exact hj), List.getElem?_eq_getElem (by rw [h.len]; exact hk)] at e2
      simp only [Option.getD_some] at e2
      have hpw := List.pairwise_iff_getElem.1 h.once
      rcases Nat.lt_trichotomy j k with hjk | hjk | hjk
      · exact absurd e2 (hpw j k (by rw [h.len]; exact hj) (by rw [h.len]; exact hk) hjk)
      · exact hjk
      · exact absurd e2.symm (hpw k j (by rw [h.len]; exact hk) (by rw [h.len]; exact hj) hjk)

/-- the table of places, its rows below j filled -/
structure PTab (m : List (List Int)) (n : Nat) (W : World) (T j : Nat) (B : Nat → Nat) (wr : World) : Prop where
  t : wr.rowIs T 22 m.length (fun k => if k < j then .slice (some ⟨B k, 0, none⟩) n n else .slice none 0 0)
  rows : ∀ k, k < j → k < m.length → wr.rowIs (B k) 3 n (fun q => .int .i64 (plc (m.getD k []) q))
  place : ∀ k, k < j → k < m.length → W.heap.size ≤ B k ∧ B k ≠ T
  tw : W.heap.size ≤ T
  bel : Below W.heap.size W wr
/-- and row j being filled -/
structure PAt (m : List (List Int)) (n : Nat) (W : World) (T j : Nat) (B : Nat → Nat) (i : Nat) (wr : World) : Prop where
  t : wr.rowIs T 22 m.length (fun k => if k < j + 1 then .slice (some ⟨B k, 0, none⟩) n n else .slice none 0 0)
  rows : ∀ k, k < j → k < m.length → wr.rowIs (B k) 3 n (fun q => .int .i64 (plc (m.getD k []) q)) ∧ B k ≠ B j
  row : wr.rowIs (B j) 3 n (fun q => .int .i64 (if (q : Int) ∈ (m.getD j []).take i then plc (m.getD j []) q else 0))
  place : ∀ k, k < j + 1 → k < m.length → W.heap.size ≤ B k ∧ B k ≠ T
  tw : W.heap.size ≤ T
  bel : Below W.heap.size W wr
theorem PTab.row {m : List (List Int)} {n : Nat} {W : World} {T j : Nat} {B : Nat → Nat} {wr : World} (h : PTab m n W T j B wr) :
    PAt m n W T j (fun k => if k = j then wr.heap.size else B k) 0 ((wr.setCell ⟨T, j, none⟩ (.slice (some ⟨wr.heap.size, 0, none⟩) n n)).alloc (.cells (madeCells #[.int .i64 0] n) 3)) := by
  have hT := h.t.lt
  have hsz := h.bel.size
  have hs2 : (wr.setCell ⟨T, j, none⟩ (.slice (some ⟨wr.heap.size, 0, none⟩) n n)).heap.size = wr.heap.size := by simp [World.setCell]
  refine ⟨((h.t.set j _).alloc _).congr (fun k _ => ?_), fun k h1 h2 => ?_, ?_, fun k h1 h2 => ?_, h.tw, (h.bel.setCell (p := ⟨T, j, none⟩) h.tw _).alloc (by rw [hs2]; exact hsz) _⟩
  · by_cases e : k = j
    · subst e; simp
    · by_cases e2 : k < j
      · rw [if_neg e, if_pos e2, if_pos (by omega), if_neg e]
      · rw [if_neg e, if_neg e2, if_neg (by omega)]
  · have e : k ≠ j := by omega
    have hk := h.rows k h1 h2
    rw [if_neg e, if_pos rfl]
    exact ⟨(hk.setOther (h.place k h1 h2).2 _).alloc _, by have := hk.lt; omega⟩
  · rw [if_pos rfl]
    have := World.rowIs_made (wr.setCell ⟨T, j, none⟩ (.slice (some ⟨wr.heap.size, 0, none⟩) n n)) (.int .i64 0) n 3
    rw [hs2] at this
    exact this.congr (fun q _ => by simp)
  · by_cases e : k = j
    · rw [if_pos e]; exact ⟨hsz, by omega⟩
    · rw [if_neg e]; exact h.place k (by omega) h2
theorem PAt.step {m : List (List Int)} {n : Nat} {W : World} {T j i u : Nat} {B : Nat → Nat} {wr : World} (h : PAt m n W T j B i wr) (hj : j < m.length) (hA : AllOf n (m.getD j [])) (hi : i < (m.getD j []).length) (hu : (m.getD j []).getD i 0 = (u : Int)) :
    PAt m n W T j B (i + 1) (wr.setCell ⟨B j, u, none⟩ (.int .i64 i)) := by
  have hp := h.place j (by omega) hj
  refine ⟨h.t.setOther (fun e => hp.2 e.symm) _, fun k h1 h2 => ⟨(h.rows k h1 h2).1.setOther (h.rows k h1 h2).2 _, (h.rows k h1 h2).2⟩, (h.row.set u (.int .i64 i)).congr (fun q _ => ?_), h.place, h.tw, h.bel.setCell (p := ⟨B j, u, none⟩) hp.1 _⟩
  rw [take_snocI hi, hu]
  by_cases e : q = u
  · subst e
    rw [if_pos rfl, if_pos (by simp), plc_at hA i q hi hu]
  · rw [if_neg e]
    congr 1
    by_cases c : (q : Int) ∈ (m.getD j []).take i
    · rw [if_pos c, if_pos (List.mem_append.2 (.inl c))]
    · rw [if_neg c, if_neg]
      rw [List.mem_append, List.mem_singleton]
      rintro (h | h)
      · exact c h
      · exact e (by omega)
theorem PAt.full {m : List (List Int)} {n : Nat} {W : World} {T j : Nat} {B : Nat → Nat} {wr : World} (h : PAt m n W T j B n wr) (hA : AllOf n (m.getD j [])) : PTab m n W T (j + 1) B wr :=
  ⟨h.t, fun k h1 h2 => by
    rcases Nat.lt_or_ge k j with c | c
    · exact (h.rows k c h2).1
    · obtain rfl : k = j := by omega
      refine h.row.congr (fun q hq => ?_)
      have e : (m.getD k []).take n = m.getD k [] := List.take_of_length_le (by rw [hA.len]; exact Nat.le_refl _)
      rw [e, if_pos (all_in hA q hq)], h.place, h.tw, h.bel⟩

/-- what places tells -/
def PlacesRes (m : List (List Int)) (n : Nat) (w : World) (e : Ending) (w' : World) : Prop :=
  ∃ T, e = .returned (.slice (some ⟨T, 0, none⟩) m.length m.length) ∧ w.heap.size ≤ T ∧ Mat w' (some ⟨T, 0, none⟩) (m.map (plcL n)) ∧ Below w.heap.size w w'
theorem PTab.mat {m : List (List Int)} {n : Nat} {W : World} {T : Nat} {B : Nat → Nat} {wr : World} (h : PTab m n W T m.length B wr) (hn : n ≤ 1000) : Mat wr (some ⟨T, 0, none⟩) (m.map (plcL n)) := by
  refine .inr ⟨T, 0, rfl, h.t.lt, fun i hi => ?_⟩
  have hi' : i < m.length := by simpa using hi
  have hg : (m.map (plcL n)).getD i [] = plcL n (m.getD i []) := by
    rw [List.getD_eq_getElem?_getD, List.getElem?_map, List.getD_eq_getElem?_getD, List.getElem?_eq_getElem hi']; rfl
  have hlen : (plcL n (m.getD i [])).length = n := by simp [plcL]
  rw [hg, hlen]
  have c := h.t.cell hi'
  rw [if_pos hi'] at c
  refine ⟨some ⟨B i, 0, none⟩, n, by rw [Nat.zero_add]; exact c, .inr ⟨B i, 0, rfl, fun q hq => ?_⟩, by omega⟩
  rw [hlen] at hq
  rw [Nat.zero_add, (h.rows i hi' hi').cell hq]
  rw [plcL_getD n _ q hq]

set_option maxHeartbeats 2000000 in
theorem places_any (m : List (List Int)) (n : Nat) (a : Option Addr) (cap : Nat) (w : World) (hx : Mat w a m) (hS : Side n m) (hn : n ≤ 8) (hm : m.length ≤ 8) :
    Calls Tryd.prog 67 #[.slice a m.length cap] w fun e w' => PlacesRes m n w e w' := by
  have hmk1 := fun w => run_make_row' (P := Tryd.prog) 22 3 (.int .i64 0) 8 Tryd.underlying22 (by kernel_rfl) rfl .i64 .i64 n (by omega) (by omega) w
  have hmk2 := fun w => run_make_row' (P := Tryd.prog) 48 22 (.slice none 0 0) 24 Tryd.underlying48 (by kernel_rfl) rfl .i64 .i64 m.length (by omega) (by omega) w
  obtain ⟨T, hT⟩ : ∃ T, T = w.heap.size := ⟨_, rfl⟩
  have hTab : ∀ B, PTab m n w T 0 B (w.alloc (.cells (madeCells #[.slice none 0 0] m.length) 22)) := fun B => by
    refine ⟨?_, fun k h1 h2 => by omega, fun k h1 h2 => by omega, by omega, (Below.refl _ _).alloc (Nat.le_refl _) _⟩
    rw [hT]
    exact (World.rowIs_made w (.slice none 0 0) m.length 22).congr (fun q hq => by rw [if_neg (by omega)])
  have HTab := Lib.hid hTab
  clear hTab
  go_enter Tryd.func67, Tryd.ntmps67
  go_wp2
  rw [← hT]
  have HT := Lib.hid hT
  clear hT
  go_loopw [13] (fun i wr => ∃ (j : Nat) (B : Nat → Nat), i = .int .i64 j ∧ j ≤ m.length ∧ PTab m n w T j B wr) (fun i _ => m.length - (intOf i).toNat)
  case atStart => exact ⟨0, fun _ => 0, rfl, Nat.zero_le _, HTab.out _⟩
  case round =>
    obtain ⟨j, B, rfl, hj, hTb⟩ := hrel
    rcases Nat.lt_or_ge j m.length with hlt | hge
    · have hrow := hTb.row
      have hTl := hTb.t.lt
      have hTf := hTb.t.frozen j
      have hTc := hTb.t.cell hlt
      rw [if_neg (by omega)] at hTc
      obtain ⟨bm, om, rfl, hbm, hcm⟩ := hx.open (by omega)
      obtain ⟨ai, ci, c1, c2, c3⟩ := hcm j hlt
      rw [← hTb.bel.cell (p := ⟨bm, om + j, none⟩) hbm] at c1
      have hA := hS j hlt
      have hAl := hA.len
      rw [hAl] at c1
      have Hc2 := Lib.hid c2
      have HA := Lib.hid hA
      have hwsz := hTb.bel.size
      obtain ⟨B', hB'⟩ : ∃ B' : Nat → Nat, B' = fun k => if k = j then wr.heap.size else B k := ⟨_, rfl⟩
      rw [← hB'] at hrow
      have Hrow := Lib.hid hrow
      have Hbel := Lib.hid hTb.bel
      obtain ⟨wo, hwo⟩ : ∃ wo : World, wo = wr := ⟨_, rfl⟩
      have Hwo := Lib.hid hwo
      have hjI : (j : Int) < m.length := by omega
      clear hTb hrow hB' c2 hA hAl hcm hwo
      go_wp2
      go_loopw [26] (fun i wx => ∃ t : Nat, i = .int .i64 t ∧ t ≤ n ∧ PAt m n w T j B' t wx) (fun i _ => n - (intOf i).toNat)
      case atStart => exact ⟨0, rfl, Nat.zero_le _, Hrow.out⟩
      case round =>
        obtain ⟨t, rfl, ht, hP⟩ := hrel
        rcases Nat.lt_or_ge t n with htn | htn
        · have hx2 := Hc2.out.below hP.bel
          have hlen := HA.out.len
          obtain ⟨bi, oi, rfl, hci⟩ := hx2.open (by omega)
          have v0 := hci t (by omega)
          have hrg := HA.out.range _ (getD_memI (xs := m.getD j []) (k := t) (by omega))
          obtain ⟨u, hu⟩ := Int.eq_ofNat_of_zero_le hrg.1
          rw [hu] at v0 hrg
          have Hu := Lib.hid hu
          have Hlen := Lib.hid hlen
          have d0 := hP.t.cell hlt
          rw [if_pos (by omega)] at d0
          have hun : u < n := by omega
          have d1 := hP.row.cell hun
          obtain ⟨ov, hov⟩ : ∃ ov, wr.cell? ⟨B' j, u, none⟩ = some ov := ⟨_, d1⟩
          have d2 := hP.row.frozen u
          have HP := Lib.hid hP
          have htI : (t : Int) < n := by omega
          have huI : (u : Int) < n := by omega
          clear hx2 hlen hci hrg hu d1 hP
          obtain ⟨bj, hbj⟩ : ∃ bj, B' j = bj := ⟨_, rfl⟩
          have Hbj := Lib.hid hbj
          rw [hbj] at d0 hov d2
          clear hbj
          go_wp2
          go_roundw
          case rel =>
            refine ⟨t + 1, by go_num, by omega, ?_⟩
            have h := HP.out.step hlt HA.out (by rw [Hlen.out]; exact htn) Hu.out
            rw [Hbj.out] at h
            exact h
          case measure => simp only [intOf]; omega
        · obtain rfl : n = t := by omega
          have h4 : decide (n < n) = false := by simp
          have HF := Lib.hid (hP.full HA.out)
          clear hP
          go_wp2
          go_roundw
          case rel => exact ⟨j + 1, B', by go_num, by omega, HF.out⟩
          case measure => simp only [intOf]; omega
    · obtain rfl : m.length = j := by omega
      have h3 : decide (m.length < m.length) = false := by simp
      have HTb := Lib.hid hTb
      clear hTb
      go_wp2
      go_ret
      exact ⟨T, rfl, HTb.out.tw, HTb.out.mat (by omega), HTb.out.bel⟩
end Go.Proofs.YtomgcfjdmoefgaaDoor
