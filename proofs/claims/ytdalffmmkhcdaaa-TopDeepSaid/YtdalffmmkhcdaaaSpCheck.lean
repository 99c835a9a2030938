/- WALK: spans that came in; slots.Check. -/
import Derived.Test.YtdalffmmkhcdaaaWithin
import Derived.Test.YtdalffmmkhcdaaaSpOwn
set_option linter.unusedVariables false
set_option linter.unusedSimpArgs false
namespace Go.Proofs.Ytdalffmmkhcdaaa
open Go Go.RowKit SimPlain HeapPlain

/-- THE SLICE AT `a` READS AS THE SPANS `l` (t: from, id: to) -/
def EvA (w : World) (a : Option Addr) (l : List Ev) : Prop := l = [] ∨ ∃ b off, a = some ⟨b, off, none⟩ ∧ b < w.heap.size ∧ ∀ i, i < l.length → w.cell? ⟨b, off + i * 2, none⟩ = some (.int .i64 (l.getD i e0).t) ∧ w.cell? ⟨b, off + i * 2 + 1, none⟩ = some (.int .i64 (l.getD i e0).id)
theorem EvA.below {w w' : World} {a : Option Addr} {l : List Ev} (h : EvA w a l) (hb : Below w.heap.size w w') : EvA w' a l := by
  rcases h with h | ⟨b, off, rfl, hl, hc⟩
  · exact .inl h
  · refine .inr ⟨b, off, rfl, Nat.lt_of_lt_of_le hl hb.size, fun i hi => ?_⟩
    obtain ⟨c1, c2⟩ := hc i hi
    exact ⟨(hb.cell (p := ⟨b, off + i * 2, none⟩) hl).trans c1, (hb.cell (p := ⟨b, off + i * 2 + 1, none⟩) hl).trans c2⟩
theorem EvA.open {w : World} {a : Option Addr} {l : List Ev} (h : EvA w a l) (h0 : 0 < l.length) : ∃ b off, a = some ⟨b, off, none⟩ ∧ b < w.heap.size ∧ ∀ i, i < l.length → w.cell? ⟨b, off + i * 2, none⟩ = some (.int .i64 (l.getD i e0).t) ∧ w.cell? ⟨b, off + i * 2 + 1, none⟩ = some (.int .i64 (l.getD i e0).id) := by
  rcases h with h | h
  · rw [h] at h0; simp at h0
  · exact h
theorem getD_memE {l : List Ev} {i : Nat} (h : i < l.length) : l.getD i e0 ∈ l := by
  rw [List.getD_eq_getElem?_getD, List.getElem?_eq_getElem h]; exact List.getElem_mem h

/-- a span that may be -/
def okS (e : Ev) : Prop := (0 ≤ e.t ∧ e.t ≤ 1000) ∧ (0 ≤ e.id ∧ e.id ≤ 1000) ∧ e.t < e.id
structure FineS (l : List Ev) : Prop where
  len : l.length ≤ 24
  all : ∀ i, i < l.length → okS (l.getD i e0)
/-- what slots.Check tells -/
def CheckedS (l : List Ev) (ev : Value) : Prop := (ev = .nilIface ∧ FineS l) ∨ ((∃ v, ev = .iface 59 v) ∧ ¬ FineS l)
set_option maxHeartbeats 1000000 in
theorem CheckS_any (l : List Ev) (a : Option Addr) (cap : Nat) (w : World) (hx : EvA w a l) (hl : l.length ≤ 9223372036854775807) :
    Calls Try.prog 12 #[.slice a l.length cap] w fun e w' => (∃ ev, e = .returned ev ∧ CheckedS l ev) ∧ Below w.heap.size w w' := by
  by_cases h1 : 24 < l.length
  · have hbad : ¬ FineS l := fun h => by have := h.len; omega
    have HB := Lib.hid hbad
    have h1' : (24 : Int) < l.length := by omega
    clear h1 hbad
    go_enter Try.func12, Try.ntmps12
    go_wp2
    go_ret
    exact ⟨⟨_, rfl, .inr ⟨⟨_, rfl⟩, HB.out⟩⟩, Below.refl _ _⟩
  have h1' : (l.length : Int) ≤ 24 := by omega
  have hlen : l.length ≤ 24 := by omega
  have hbad : ∀ i, i < l.length → ¬ okS (l.getD i e0) → ∀ v, CheckedS l (.iface 59 v) := fun i hi hn v => .inr ⟨⟨_, rfl⟩, fun h => hn (h.all i hi)⟩
  have hgood : (∀ i, i < l.length → okS (l.getD i e0)) → CheckedS l .nilIface := fun h => .inl ⟨rfl, hlen, h⟩
  have Hbad := Lib.hid hbad
  have Hgood := Lib.hid hgood
  clear h1 hbad hgood
  go_enter Try.func12, Try.ntmps12
  go_wp2
  go_loopw [11] (fun i wr => ∃ k : Nat, i = .int .i64 k ∧ k ≤ l.length ∧ (∀ j, j < k → okS (l.getD j e0)) ∧ Below w.heap.size w wr) (fun i _ => l.length - (intOf i).toNat)
  case atStart => exact ⟨0, rfl, Nat.zero_le _, fun j hj => by omega, Below.refl _ _⟩
  case round =>
    obtain ⟨k, rfl, hk, hall, hb⟩ := hrel
    have Hall := Lib.hid hall
    clear hall
    rcases Nat.lt_or_ge k l.length with hlt | hge
    · obtain ⟨b, off, rfl, hbl, hc⟩ := hx.open (by omega)
      obtain ⟨c0, c1⟩ := hc k hlt
      replace c0 := (hb.cell (p := ⟨b, off + k * 2, none⟩) hbl).trans c0
      replace c1 := (hb.cell (p := ⟨b, off + k * 2 + 1, none⟩) hbl).trans c1
      have hsz := hb.size
      clear hc
      have hok : okS (l.getD k e0) ↔ ((0 ≤ (l.getD k e0).t ∧ (l.getD k e0).t ≤ 1000) ∧ (0 ≤ (l.getD k e0).id ∧ (l.getD k e0).id ≤ 1000) ∧ (l.getD k e0).t < (l.getD k e0).id) := Iff.rfl
      have Hbk := Lib.hid (Hbad.out k hlt)
      generalize hxl : l.getD k e0 = x at c0 c1 hok Hbk
      have HXl := Lib.hid hxl
      clear hxl
      have HBk := Hbk
      clear Hbk
      by_cases h1 : 0 ≤ x.t ∧ x.t ≤ 1000
      · by_cases h2 : 0 ≤ x.id ∧ x.id ≤ 1000
        · by_cases h3 : x.t < x.id
          · have hg : okS x := hok.2 ⟨h1, h2, h3⟩
            have Hg : Hid (∀ j, j < k + 1 → okS (l.getD j e0)) := Lib.hid fun j hj => by
              rcases Nat.lt_or_ge j k with h | h
              · exact Hall.out j h
              · obtain rfl : j = k := by omega
                rw [HXl.out]; exact hg
            obtain ⟨p1, p2⟩ := h1
            obtain ⟨q1, q2⟩ := h2
            clear hg hok
            go_wp2_with fail
            refine (within_yes x.t 0 1000 p1 p2 _).mono ?_
            rintro e w' ⟨rfl, rfl⟩
            go_wp2_with fail
            refine (within_yes x.id 0 1000 q1 q2 _).mono ?_
            rintro e w' ⟨rfl, rfl⟩
            go_wp2
            go_roundw
            case rel => exact ⟨k + 1, by go_num, by omega, Hg.out, hb.alloc hsz _⟩
            case measure => simp only [intOf]; omega
          · have HE := Lib.hid (HBk.out fun c => h3 (hok.1 c).2.2)
            have h3' : x.id ≤ x.t := by omega
            obtain ⟨p1, p2⟩ := h1
            obtain ⟨q1, q2⟩ := h2
            clear h3 hok
            go_wp2_with fail
            refine (within_yes x.t 0 1000 p1 p2 _).mono ?_
            rintro e w' ⟨rfl, rfl⟩
            go_wp2_with fail
            refine (within_yes x.id 0 1000 q1 q2 _).mono ?_
            rintro e w' ⟨rfl, rfl⟩
            go_wp2
            go_ret
            exact ⟨⟨_, rfl, HE.out _⟩, hb.alloc hsz _⟩
        · have HE := Lib.hid (HBk.out fun c => h2 (hok.1 c).2.1)
          have Hq := Lib.hid (show x.id < 0 ∨ 1000 < x.id by omega)
          obtain ⟨p1, p2⟩ := h1
          clear h2 hok
          go_wp2_with fail
          refine (within_yes x.t 0 1000 p1 p2 _).mono ?_
          rintro e w' ⟨rfl, rfl⟩
          go_wp2_with fail
          refine (within_no x.id 0 1000 Hq.out _).mono ?_
          rintro e w' ⟨rfl, rfl⟩
          go_wp2
          go_ret
          exact ⟨⟨_, rfl, HE.out _⟩, hb.alloc hsz _⟩
      · have HE := Lib.hid (HBk.out fun c => h1 (hok.1 c).1)
        have Hq := Lib.hid (show x.t < 0 ∨ 1000 < x.t by omega)
        clear h1 hok
        go_wp2_with fail
        refine (within_no x.t 0 1000 Hq.out _).mono ?_
        rintro e w' ⟨rfl, rfl⟩
        go_wp2
        go_ret
        exact ⟨⟨_, rfl, HE.out _⟩, hb.alloc hsz _⟩
    · obtain rfl : l.length = k := by omega
      have h3 : decide (l.length < l.length) = false := by simp
      go_wp2
      go_ret
      exact ⟨⟨_, rfl, Hgood.out Hall.out⟩, hb⟩
end Go.Proofs.Ytdalffmmkhcdaaa
