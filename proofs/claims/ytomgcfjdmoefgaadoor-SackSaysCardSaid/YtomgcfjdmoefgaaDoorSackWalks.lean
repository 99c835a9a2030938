/- WALKS: goods that came in; sack.Check, the closure, sack.dear. -/
import Derived.Test.YtomgcfjdmoefgaaDoorSackSort
import Derived.Test.YtomgcfjdmoefgaaDoorSackPlain
namespace Go.Proofs.YtomgcfjdmoefgaaDoor
open Go Go.RowKit SackPlain
open SortPlain (asInts asInts_length)

structure GoodAt (w : World) (b off : Nat) (g : Gd) : Prop where
  c0 : w.cell? ⟨b, off, none⟩ = some (.int .i64 g.w)
  c1 : w.cell? ⟨b, off + 1, none⟩ = some (.int .i64 g.v)
def Goods (w : World) (a : Option Addr) (l : List Gd) : Prop := l = [] ∨ ∃ b off, a = some ⟨b, off, none⟩ ∧ b < w.heap.size ∧ ∀ i, i < l.length → GoodAt w b (off + i * 2) (l.getD i g0)
theorem GoodAt.below {w w' : World} {B b off : Nat} {g : Gd} (h : GoodAt w b off g) (hb : Below B w w') (hB : b < B) : GoodAt w' b off g :=
  ⟨by rw [hb.cell (p := ⟨b, off, none⟩) hB]; exact h.c0, by rw [hb.cell (p := ⟨b, off + 1, none⟩) hB]; exact h.c1⟩
theorem Goods.below {w w' : World} {a : Option Addr} {l : List Gd} (h : Goods w a l) (hb : Below w.heap.size w w') : Goods w' a l := by
  rcases h with h | ⟨b, off, rfl, hl, hc⟩
  · exact .inl h
  · exact .inr ⟨b, off, rfl, by have := hb.size; omega, fun i hi => (hc i hi).below hb hl⟩
theorem Goods.drewN {w : World} {a : Option Addr} {l : List Gd} (h : Goods w a l) (q : Nat) : Goods (w.drewN q) a l := by
  rcases h with h | ⟨b, off, rfl, hl, hc⟩
  · exact .inl h
  · exact .inr ⟨b, off, rfl, hl, fun i hi => ⟨(hc i hi).c0, (hc i hi).c1⟩⟩
theorem Goods.open {w : World} {a : Option Addr} {l : List Gd} (h : Goods w a l) (h0 : 0 < l.length) : ∃ b off, a = some ⟨b, off, none⟩ ∧ b < w.heap.size ∧ ∀ i, i < l.length → GoodAt w b (off + i * 2) (l.getD i g0) := by
  rcases h with rfl | h
  · simp at h0
  · exact h

/-- what is wrong with goods -/
def goodB (g : Gd) : Bool := decide (1 ≤ g.w) && decide (g.w ≤ 300) && (decide (0 ≤ g.v) && decide (g.v ≤ 1000))
def chkG (l : List Gd) (room : Int) : Int := if 16 < l.length then 4 else if room < 0 ∨ 300 < room then 1 else if l.all goodB = true then 0 else 1
structure FineG (l : List Gd) (room : Int) : Prop where
  ok : Ok l
  r0 : 0 ≤ room
  r1 : room ≤ 300
theorem goodB_iff (g : Gd) : goodB g = true ↔ (1 ≤ g.w ∧ g.w ≤ 300) ∧ 0 ≤ g.v ∧ g.v ≤ 1000 := by simp [goodB]
theorem chkG_fine {l : List Gd} {room : Int} (h : chkG l room = 0) : FineG l room := by
  unfold chkG at h
  by_cases h1 : 16 < l.length
  · rw [if_pos h1] at h; omega
  rw [if_neg h1] at h
  by_cases h2 : room < 0 ∨ 300 < room
  · rw [if_pos h2] at h; omega
  rw [if_neg h2] at h
  by_cases h3 : l.all goodB = true
  · exact ⟨⟨fun g hg => by have := (goodB_iff g).1 (List.all_eq_true.1 h3 g hg); omega, by omega⟩, by omega, by omega⟩
  · rw [if_neg h3] at h; omega
theorem fine_chkG {l : List Gd} {room : Int} (h : FineG l room) : chkG l room = 0 := by
  unfold chkG
  rw [if_neg (by have := h.ok.short; omega), if_neg (by have := h.r0; have := h.r1; omega), if_pos]
  exact List.all_eq_true.2 fun g hg => (goodB_iff g).2 (by have := h.ok.all g hg; omega)

set_option maxHeartbeats 1000000 in
theorem CheckG_any (l : List Gd) (room : Int) (a : Option Addr) (cap : Nat) (w : World) (hx : Goods w a l) (hl : l.length ≤ 9223372036854775807) :
    Calls Tryd.prog 42 #[.slice a l.length cap, .int .i64 room] w fun e w' => e = .returned (errV 81 (chkG l room)) ∧ Below w.heap.size w w' := by
  by_cases h1 : 16 < l.length
  · have e : chkG l room = 4 := by unfold chkG; rw [if_pos h1]
    rw [e, errV_bad (by decide)]
    clear e
    have h1' : (16 : Int) < l.length := by omega
    go_enter Tryd.func42, Tryd.ntmps42
    go_wp2
    go_ret
    exact ⟨rfl, Below.refl _ _⟩
  have h1' : (l.length : Int) ≤ 16 := by omega
  by_cases h2 : room < 0 ∨ 300 < room
  · have e : chkG l room = 1 := by unfold chkG; rw [if_neg h1, if_pos h2]
    rw [e, errV_bad (by decide)]
    have H2 := Lib.hid h2
    clear e h1 h2
    go_enter Tryd.func42, Tryd.ntmps42
    go_wp2_with fail
    refine (within_no room 0 300 H2.out _).mono ?_
    rintro e w' ⟨rfl, rfl⟩
    go_wp2
    go_ret
    exact ⟨rfl, Below.refl _ _⟩
  have r1 : 0 ≤ room := by omega
  have r2 : room ≤ 300 := by omega
  have hlen : l.length ≤ 16 := by omega
  have echk : chkG l room = if l.all goodB = true then 0 else 1 := by unfold chkG; rw [if_neg h1, if_neg h2]
  rw [echk]
  have hbad : (∃ i, i < l.length ∧ goodB (l.getD i g0) = false) → (if l.all goodB = true then (0 : Int) else 1) = 1 := fun ⟨i, hi, hb⟩ => by
    rw [if_neg]
    intro h
    rw [List.all_eq_true.1 h _ (getD_mem hi)] at hb
    cases hb
  have hgood : (∀ i, i < l.length → goodB (l.getD i g0) = true) → (if l.all goodB = true then (0 : Int) else 1) = 0 := fun h => by
    rw [if_pos]
    refine List.all_eq_true.2 fun g hg => ?_
    obtain ⟨i, hi, rfl⟩ := List.mem_iff_getElem.1 hg
    have := h i hi
    rwa [List.getD_eq_getElem?_getD, List.getElem?_eq_getElem hi] at this
  generalize (if l.all goodB = true then (0 : Int) else 1) = E at hbad hgood ⊢
  have Hbad := Lib.hid hbad
  have Hgood := Lib.hid hgood
  clear h1 h2 echk hbad hgood
  go_enter Tryd.func42, Tryd.ntmps42
  go_wp2_with fail
  refine (within_yes room 0 300 r1 r2 _).mono ?_
  rintro e w' ⟨rfl, rfl⟩
  go_wp2
  go_loopw [17] (fun i wr => ∃ k : Nat, i = .int .i64 k ∧ k ≤ l.length ∧ (∀ j, j < k → goodB (l.getD j g0) = true) ∧ Below w.heap.size w wr) (fun i _ => l.length - (intOf i).toNat)
  case atStart => exact ⟨0, rfl, Nat.zero_le _, fun j hj => by omega, Below.refl _ _⟩
  case round =>
    obtain ⟨k, rfl, hk, hall, hb⟩ := hrel
    have Hall := Lib.hid hall
    clear hall
    rcases Nat.lt_or_ge k l.length with hlt | hge
    · obtain ⟨b, off, rfl, hbl, hc⟩ := hx.open (by omega)
      obtain ⟨c0, c1⟩ := (hc k hlt).below hb hbl
      have hsz := hb.size
      clear hc
      have Hk : ∀ b, goodB (l.getD k g0) = b → goodB ⟨(l.getD k g0).w, (l.getD k g0).v⟩ = b := fun b h => h
      have Hb : goodB (l.getD k g0) = goodB ⟨(l.getD k g0).w, (l.getD k g0).v⟩ := rfl
      clear Hk
      generalize hgw : (l.getD k g0).w = gw at c0 Hb
      generalize hgv : (l.getD k g0).v = gv at c1 Hb
      have HB := Lib.hid Hb
      clear Hb hgw hgv
      by_cases h1 : 1 ≤ gw ∧ gw ≤ 300
      · by_cases h2 : 0 ≤ gv ∧ gv ≤ 1000
        · have hg : goodB ⟨gw, gv⟩ = true := (goodB_iff _).2 ⟨h1, h2⟩
          have Hg := Lib.hid hg
          clear hg
          obtain ⟨p1, p2⟩ := h1
          obtain ⟨q1, q2⟩ := h2
          go_wp2_with fail
          refine (within_yes gw 1 300 p1 p2 _).mono ?_
          rintro e w' ⟨rfl, rfl⟩
          go_wp2_with fail
          refine (within_yes gv 0 1000 q1 q2 _).mono ?_
          rintro e w' ⟨rfl, rfl⟩
          go_wp2
          go_roundw
          case rel =>
            refine ⟨k + 1, by go_num, by omega, fun j hj => ?_, hb.alloc hsz _⟩
            rcases Nat.lt_or_ge j k with h | h
            · exact Hall.out j h
            · obtain rfl : j = k := by omega
              rw [HB.out]; exact Hg.out
          case measure => simp only [intOf]; omega
        · have hg : goodB ⟨gw, gv⟩ = false := by
            rcases hh : goodB ⟨gw, gv⟩ with _ | _
            · rfl
            · exact absurd ((goodB_iff _).1 hh).2 h2
          have hE := Hbad.out ⟨k, hlt, by rw [HB.out]; exact hg⟩
          have q : gv < 0 ∨ 1000 < gv := by omega
          have Hq := Lib.hid q
          obtain ⟨p1, p2⟩ := h1
          subst hE
          clear h2 hg q
          go_wp2_with fail
          refine (within_yes gw 1 300 p1 p2 _).mono ?_
          rintro e w' ⟨rfl, rfl⟩
          go_wp2_with fail
          refine (within_no gv 0 1000 Hq.out _).mono ?_
          rintro e w' ⟨rfl, rfl⟩
          go_wp2
          go_ret
          exact ⟨rfl, hb.alloc hsz _⟩
      · have hg : goodB ⟨gw, gv⟩ = false := by
          rcases hh : goodB ⟨gw, gv⟩ with _ | _
          · rfl
          · exact absurd ((goodB_iff _).1 hh).1 h1
        have hE := Hbad.out ⟨k, hlt, by rw [HB.out]; exact hg⟩
        have q : gw < 1 ∨ 300 < gw := by omega
        have Hq := Lib.hid q
        subst hE
        clear h1 hg q
        go_wp2_with fail
        refine (within_no gw 1 300 Hq.out _).mono ?_
        rintro e w' ⟨rfl, rfl⟩
        go_wp2
        go_ret
        exact ⟨rfl, hb.alloc hsz _⟩
    · have hE := Hgood.out (fun i hi => Hall.out i (by omega))
      subst hE
      have h3 : (l.length : Int) ≤ k := by omega
      go_wp2
      go_ret
      exact ⟨rfl, hb⟩
end Go.Proofs.YtomgcfjdmoefgaaDoor
