/- WALKS: items; order.Check, the document's Items. -/
import Derived.Test.YtfejlkgddnamoaaGreatDoorWithin
import Derived.Test.YtfejlkgddnamoaaGreatDoorBkRow
set_option linter.unusedVariables false
set_option linter.unusedSimpArgs false
namespace Go.Proofs.YtfejlkgddnamoaaGreatDoor
open Go Go.RowKit SimPlain HeapPlain

/-- THE SLICE AT `a` READS AS THE ITEMS `l` (t: the key) -/
def EvA (w : World) (a : Option Addr) (l : List Ev) : Prop := l = [] ∨ ∃ b off, a = some ⟨b, off, none⟩ ∧ b < w.heap.size ∧ ∀ i, i < l.length → w.cell? ⟨b, off + i * 2, none⟩ = some (.int .i64 (l.getD i e0).t) ∧ w.cell? ⟨b, off + i * 2 + 1, none⟩ = some (.int .i64 (l.getD i e0).id)
theorem EvA.below {w w' : World} {a : Option Addr} {l : List Ev} (h : EvA w a l) (hb : Below w.heap.size w w') : EvA w' a l := by
  rcases h with h | ⟨b, off, rfl, hl, hc⟩
  · exact .inl h
  · refine .inr ⟨b, off, rfl, Nat.lt_of_lt_of_le hl hb.size, fun i hi => ?_⟩
    obtain ⟨c1, c2⟩ := hc i hi
    exact ⟨(hb.cell (p := ⟨b, off + i * 2, none⟩) hl).trans c1, (hb.cell (p := ⟨b, off + i * 2 + 1, none⟩) hl).trans c2⟩
theorem EvA.open {w : World} {a : Option Addr} {l : List Ev} (h : EvA w a l) (h0 : 0 < l.length) : ∃ b off, a = some ⟨b, off, none⟩ ∧ b < w.heap.size ∧ ∀ i, i < l.length → w.cell? ⟨b, off + i * 2, none⟩ = some (.int .i64 (l.getD i e0).t) ∧ w.cell? ⟨b, off + i * 2 + 1, none⟩ = some (.int .i64 (l.getD i e0).id) := by
  rcases h with h | h
  · rw [h] at h0; simp at h0
  · exact h
theorem getD_memE {l : List Ev} {i : Nat} (h : i < l.length) : l.getD i e0 ∈ l := by
  rw [List.getD_eq_getElem?_getD, List.getElem?_eq_getElem h]; exact List.getElem_mem h

/-- what is wrong with items -/
def okE (e : Ev) : Bool := decide (-1000000 ≤ e.t) && decide (e.t ≤ 1000000) && (decide (0 ≤ e.id) && decide (e.id ≤ 1000000))
def chkI (l : List Ev) : Int := if 60 < l.length then 4 else if l.all okE = true then 0 else 1
theorem okE_iff (e : Ev) : okE e = true ↔ (-1000000 ≤ e.t ∧ e.t ≤ 1000000) ∧ 0 ≤ e.id ∧ e.id ≤ 1000000 := by simp [okE]
theorem chkI_fine {l : List Ev} (h : chkI l = 0) : l.length ≤ 60 ∧ ∀ e ∈ l, okE e = true := by
  unfold chkI at h
  by_cases h1 : 60 < l.length
  · rw [if_pos h1] at h; omega
  rw [if_neg h1] at h
  by_cases h3 : l.all okE = true
  · exact ⟨by omega, fun e he => List.all_eq_true.1 h3 e he⟩
  · rw [if_neg h3] at h; omega
theorem fine_chkI {l : List Ev} (h1 : l.length ≤ 60) (h2 : ∀ e ∈ l, okE e = true) : chkI l = 0 := by
  unfold chkI
  rw [if_neg (by omega), if_pos (List.all_eq_true.2 h2)]
set_option maxHeartbeats 1000000 in
theorem CheckI_any (l : List Ev) (a : Option Addr) (cap : Nat) (w : World) (hx : EvA w a l) (hl : l.length ≤ 9223372036854775807) :
    Calls Tryz.prog 20 #[.slice a l.length cap] w fun e w' => e = .returned (errV 56 (chkI l)) ∧ Below w.heap.size w w' := by
  by_cases h1 : 60 < l.length
  · have e : chkI l = 4 := by unfold chkI; rw [if_pos h1]
    rw [e, errV_bad (by decide)]
    clear e
    have h1' : (60 : Int) < l.length := by omega
    go_enter Tryz.func20, Tryz.ntmps20
    go_wp2
    go_ret
    exact ⟨rfl, Below.refl _ _⟩
  have h1' : (l.length : Int) ≤ 60 := by omega
  have hlen : l.length ≤ 60 := by omega
  have echk : chkI l = if l.all okE = true then 0 else 1 := by unfold chkI; rw [if_neg h1]
  rw [echk]
  have hbad : (∃ i, i < l.length ∧ okE (l.getD i e0) = false) → (if l.all okE = true then (0 : Int) else 1) = 1 := fun ⟨i, hi, hb⟩ => by
    rw [if_neg]
    intro h
    rw [List.all_eq_true.1 h _ (getD_memE hi)] at hb
    cases hb
  have hgood : (∀ i, i < l.length → okE (l.getD i e0) = true) → (if l.all okE = true then (0 : Int) else 1) = 0 := fun h => by
    rw [if_pos]
    refine List.all_eq_true.2 fun g hg => ?_
    obtain ⟨i, hi, rfl⟩ := List.mem_iff_getElem.1 hg
    have := h i hi
    rwa [List.getD_eq_getElem?_getD, List.getElem?_eq_getElem hi] at this
  generalize (if l.all okE = true then (0 : Int) else 1) = E at hbad hgood ⊢
  have Hbad := Lib.hid hbad
  have Hgood := Lib.hid hgood
  clear h1 echk hbad hgood
  go_enter Tryz.func20, Tryz.ntmps20
  go_wp2
  go_loopw [11] (fun i wr => ∃ k : Nat, i = .int .i64 k ∧ k ≤ l.length ∧ (∀ j, j < k → okE (l.getD j e0) = true) ∧ Below w.heap.size w wr) (fun i _ => l.length - (intOf i).toNat)
  case atStart => exact ⟨0, rfl, Nat.zero_le _, fun j hj => by omega, Below.refl _ _⟩
  case round =>
    obtain ⟨k, rfl, hk, hall, hb⟩ := hrel
    have Hall := Lib.hid hall
    clear hall
    rcases Nat.lt_or_ge k l.length with hlt | hge
    · obtain ⟨b, off, rfl, hbl, hc⟩ := hx.open (by omega)
      obtain ⟨c0, c1⟩ := hc k hlt
      replace c0 := (hb.cell (p := ⟨b, off + k * 2, none⟩) hbl).trans c0
      replace c1 := (hb.cell (p := ⟨b, off + k * 2 + 1, none⟩) hbl).trans c1
      have hsz := hb.size
      clear hc
      have Hk : ∀ b, okE (l.getD k e0) = b → okE ⟨(l.getD k e0).t, (l.getD k e0).id, 0⟩ = b := fun b h => h
      have Hb : okE (l.getD k e0) = okE ⟨(l.getD k e0).t, (l.getD k e0).id, 0⟩ := rfl
      clear Hk
      generalize hgw : (l.getD k e0).t = gw at c0 Hb
      generalize hgv : (l.getD k e0).id = gv at c1 Hb
      have HB := Lib.hid Hb
      clear Hb hgw hgv
      by_cases h1 : -1000000 ≤ gw ∧ gw ≤ 1000000
      · by_cases h2 : 0 ≤ gv ∧ gv ≤ 1000000
        · have hg : okE ⟨gw, gv, 0⟩ = true := (okE_iff _).2 ⟨h1, h2⟩
          have Hg := Lib.hid hg
          clear hg
          obtain ⟨p1, p2⟩ := h1
          obtain ⟨q1, q2⟩ := h2
          go_wp2_with fail
          refine (within_yes gw (-1000000) 1000000 p1 p2 _).mono ?_
          rintro e w' ⟨rfl, rfl⟩
          go_wp2_with fail
          refine (within_yes gv 0 1000000 q1 q2 _).mono ?_
          rintro e w' ⟨rfl, rfl⟩
          go_wp2
          go_roundw
          case rel =>
            refine ⟨k + 1, by go_num, by omega, fun j hj => ?_, hb.alloc hsz _⟩
            rcases Nat.lt_or_ge j k with h | h
            · exact Hall.out j h
            · obtain rfl : j = k := by omega
              rw [HB.out]; exact Hg.out
          case measure => simp only [intOf]; omega
        · have hg : okE ⟨gw, gv, 0⟩ = false := by
            rcases hh : okE ⟨gw, gv, 0⟩ with _ | _
            · rfl
            · exact absurd ((okE_iff _).1 hh).2 h2
          have hE := Hbad.out ⟨k, hlt, by rw [HB.out]; exact hg⟩
          have q : gv < 0 ∨ 1000000 < gv := by omega
          have Hq := Lib.hid q
          obtain ⟨p1, p2⟩ := h1
          subst hE
          clear h2 hg q
          go_wp2_with fail
          refine (within_yes gw (-1000000) 1000000 p1 p2 _).mono ?_
          rintro e w' ⟨rfl, rfl⟩
          go_wp2_with fail
          refine (within_no gv 0 1000000 Hq.out _).mono ?_
          rintro e w' ⟨rfl, rfl⟩
          go_wp2
          go_ret
          exact ⟨rfl, hb.alloc hsz _⟩
      · have hg : okE ⟨gw, gv, 0⟩ = false := by
          rcases hh : okE ⟨gw, gv, 0⟩ with _ | _
          · rfl
          · exact absurd ((okE_iff _).1 hh).1 h1
        have hE := Hbad.out ⟨k, hlt, by rw [HB.out]; exact hg⟩
        have q : gw < -1000000 ∨ 1000000 < gw := by omega
        have Hq := Lib.hid q
        subst hE
        clear h1 hg q
        go_wp2_with fail
        refine (within_no gw (-1000000) 1000000 Hq.out _).mono ?_
        rintro e w' ⟨rfl, rfl⟩
        go_wp2
        go_ret
        exact ⟨rfl, hb.alloc hsz _⟩
    · have hE := Hgood.out (fun i hi => Hall.out i (by omega))
      subst hE
      have h3 : (l.length : Int) ≤ k := by omega
      go_wp2
      go_ret
      exact ⟨rfl, hb⟩
theorem rin1_yes (n lo hi : Int) (h1 : lo ≤ n) (h2 : n ≤ hi) (w : World) : Calls Tryz.prog 103 #[.int .i64 n, .int .i64 lo, .int .i64 hi] w fun e w' => e = .returned (.bool true) ∧ w = w' := by
  go_enter Tryz.func103, Tryz.ntmps103
  go_wp2
  go_ret
  exact ⟨rfl, rfl⟩
theorem rin1_no (n lo hi : Int) (h : n < lo ∨ hi < n) (w : World) : Calls Tryz.prog 103 #[.int .i64 n, .int .i64 lo, .int .i64 hi] w fun e w' => e = .returned (.bool false) ∧ w = w' := by
  rcases Int.lt_or_le n lo with h1 | h1
  · clear h
    go_enter Tryz.func103, Tryz.ntmps103
    go_wp2
    go_ret
    exact ⟨rfl, rfl⟩
  · have h2 : hi < n := by omega
    have h3 : decide (n ≤ hi) = false := decide_eq_false (by omega)
    clear h
    go_enter Tryz.func103, Tryz.ntmps103
    go_wp2
    go_ret
    exact ⟨rfl, rfl⟩

set_option maxHeartbeats 1000000 in
theorem ritems_any (l : List Ev) (a : Option Addr) (cap : Nat) (w : World) (hx : EvA w a l) (hl : l.length ≤ 9223372036854775807) :
    Calls Tryz.prog 85 #[.slice a l.length cap] w fun e w' => e = .returned (.int .i64 (chkI l)) ∧ ∃ q, w' = w.drewN q := by
  by_cases h1 : 60 < l.length
  · have e : chkI l = 4 := by unfold chkI; rw [if_pos h1]
    rw [e]
    clear e
    have h1' : (60 : Int) < l.length := by omega
    go_enter Tryz.func85, Tryz.ntmps85
    go_wp2
    go_ret
    exact ⟨rfl, 0, rfl⟩
  have h1' : (l.length : Int) ≤ 60 := by omega
  have hlen : l.length ≤ 60 := by omega
  have echk : chkI l = if l.all okE = true then 0 else 1 := by unfold chkI; rw [if_neg h1]
  rw [echk]
  have hbad : (∃ i, i < l.length ∧ okE (l.getD i e0) = false) → (if l.all okE = true then (0 : Int) else 1) = 1 := fun ⟨i, hi, hb⟩ => by
    rw [if_neg]
    intro h
    rw [List.all_eq_true.1 h _ (getD_memE hi)] at hb
    cases hb
  have hgood : (∀ i, i < l.length → okE (l.getD i e0) = true) → (if l.all okE = true then (0 : Int) else 1) = 0 := fun h => by
    rw [if_pos]
    refine List.all_eq_true.2 fun g hg => ?_
    obtain ⟨i, hi, rfl⟩ := List.mem_iff_getElem.1 hg
    have := h i hi
    rwa [List.getD_eq_getElem?_getD, List.getElem?_eq_getElem hi] at this
  generalize (if l.all okE = true then (0 : Int) else 1) = E at hbad hgood ⊢
  have Hbad := Lib.hid hbad
  have Hgood := Lib.hid hgood
  clear h1 echk hbad hgood
  go_enter Tryz.func85, Tryz.ntmps85
  go_wp2
  go_loopw [3] (fun i wr => ∃ k q : Nat, i = .int .i64 k ∧ k ≤ l.length ∧ (∀ j, j < k → okE (l.getD j e0) = true) ∧ wr = w.drewN q) (fun i _ => l.length - (intOf i).toNat)
  case atStart => exact ⟨0, 0, rfl, Nat.zero_le _, fun j hj => by omega, rfl⟩
  case round =>
    obtain ⟨k, q, rfl, hk, hall, rfl⟩ := hrel
    have Hall := Lib.hid hall
    clear hall
    rcases Nat.lt_or_ge k l.length with hlt | hge
    · obtain ⟨b, off, rfl, hbl, hc⟩ := hx.open (by omega)
      obtain ⟨c0, c1⟩ := hc k hlt
      clear hc
      have hkI : (k : Int) < l.length := by omega
      have Hb : okE (l.getD k e0) = okE ⟨(l.getD k e0).t, (l.getD k e0).id, 0⟩ := rfl
      generalize hgw : (l.getD k e0).t = gw at c0 Hb
      generalize hgv : (l.getD k e0).id = gv at c1 Hb
      have HB := Lib.hid Hb
      clear Hb hgw hgv
      by_cases h1 : -1000000 ≤ gw ∧ gw ≤ 1000000
      · by_cases h2 : 0 ≤ gv ∧ gv ≤ 1000000
        · have hg : okE ⟨gw, gv, 0⟩ = true := (okE_iff _).2 ⟨h1, h2⟩
          have Hg := Lib.hid hg
          clear hg
          obtain ⟨p1, p2⟩ := h1
          obtain ⟨q1, q2⟩ := h2
          have H1 := Lib.hid (fun W => rin1_yes gw (-1000000) 1000000 p1 p2 W)
          have H2 := Lib.hid (fun W => rin1_yes gv 0 1000000 q1 q2 W)
          go_wp2_with fail
          refine (H1.out _).mono ?_
          rintro e w' ⟨rfl, rfl⟩
          go_wp2_with fail
          refine (H2.out _).mono ?_
          rintro e w' ⟨rfl, rfl⟩
          go_wp2
          go_roundw
          case rel =>
            refine ⟨k + 1, q, by go_num, by omega, fun j hj => ?_, rfl⟩
            rcases Nat.lt_or_ge j k with h | h
            · exact Hall.out j h
            · obtain rfl : j = k := by omega
              rw [HB.out]; exact Hg.out
          case measure => simp only [intOf]; omega
        · have hg : okE ⟨gw, gv, 0⟩ = false := by
            rw [Bool.eq_false_iff]; intro h; exact h2 ((okE_iff _).1 h).2
          have he := Hbad.out ⟨k, hlt, HB.out.trans hg⟩
          have He := Lib.hid he
          have hv : gv < 0 ∨ 1000000 < gv := by omega
          obtain ⟨p1, p2⟩ := h1
          have H1 := Lib.hid (fun W => rin1_yes gw (-1000000) 1000000 p1 p2 W)
          have H2 := Lib.hid (fun W => rin1_no gv 0 1000000 hv W)
          clear hg he h2 hv
          go_wp2_with fail
          refine (H1.out _).mono ?_
          rintro e w' ⟨rfl, rfl⟩
          go_wp2_with fail
          refine (H2.out _).mono ?_
          rintro e w' ⟨rfl, rfl⟩
          go_wp2
          go_ret
          exact ⟨by rw [He.out]; rfl, q, rfl⟩
      · have hg : okE ⟨gw, gv, 0⟩ = false := by
          rw [Bool.eq_false_iff]; intro h; exact h1 ((okE_iff _).1 h).1
        have he := Hbad.out ⟨k, hlt, HB.out.trans hg⟩
        have He := Lib.hid he
        have hv : gw < -1000000 ∨ 1000000 < gw := by omega
        have H1 := Lib.hid (fun W => rin1_no gw (-1000000) 1000000 hv W)
        clear hg he h1 hv
        go_wp2_with fail
        refine (H1.out _).mono ?_
        rintro e w' ⟨rfl, rfl⟩
        go_wp2
        go_ret
        exact ⟨by rw [He.out]; rfl, q, rfl⟩
    · obtain rfl : l.length = k := by omega
      have h3 : decide (l.length < l.length) = false := by simp
      have he := Hgood.out Hall.out
      have He := Lib.hid he
      clear he
      go_wp2
      go_ret
      exact ⟨by rw [He.out]; rfl, q, rfl⟩

end Go.Proofs.YtfejlkgddnamoaaGreatDoor
