/- WALKS: the choosers' methods: fifo.goes, fifo.met, lru.met, far.goes, far.met. -/
import Derived.Test.YtmlnegcffeghcaaDoorPageCheck
import Derived.Test.YtmlnegcffeghcaaDoorOwnRow
import Derived.Maps.OwnSet
import Derived.Maps.OwnOps
namespace Go.Proofs.YtmlnegcffeghcaaDoor
open Go Go.RowKit PagePlain Go.Maps

theorem intKey : Keyed Tryd.prog 3 := int_keyed Tryd.underlying3
theorem intZero (w : World) : (zeroValue 3).run Tryd.prog w = .ok (.int .i64 0) w := by kernel_rfl

/-- the map's datum: since when -/
structure SinceIs (D : DataW Unit) (s : Int → Int) : Prop where
  tidy : Tidy D
  at_ : ∀ c, D.atKey (.int .i64 c) (.lit (.int .i64 0)) = .lit (.int .i64 (s c))
theorem SinceIs.start : SinceIs (.map []) (fun _ => 0) := ⟨tidy_empty, fun c => rfl⟩
theorem SinceIs.put {D : DataW Unit} {s : Int → Int} (h : SinceIs D s) (p t : Int) : SinceIs (D.put (.int .i64 p) (.lit (.int .i64 t))) (upd s p t) := by
  have hk : WideAt.IsKeyLit (.int .i64 p) := trivial
  refine ⟨h.tidy.put hk _, fun c => ?_⟩
  unfold upd
  by_cases e : c = p
  · subst e
    rw [atKey_put_same h.tidy.isMap hk, if_pos rfl]
  · rw [atKey_put_other (by simpa using e), if_neg e]
    exact h.at_ c
/-- the map at block G -/
def Since (w : World) (G n : Nat) (s : Int → Int) : Prop := ∃ D, SinceIs D s ∧ w.ownsMap Tryd.prog 3 (plainElem Tryd.prog 3) G n D
theorem Since.lt {w : World} {G n : Nat} {s : Int → Int} (h : Since w G n s) : G < w.heap.size := by
  obtain ⟨D, _, h⟩ := h; exact h.lt
theorem Since.drewN {w : World} {G n : Nat} {s : Int → Int} (h : Since w G n s) (q : Nat) : Since (w.drewN q) G n s := h
theorem Since.mono {w : World} {G n m : Nat} {s : Int → Int} (h : Since w G n s) (hn : n ≤ m) : Since w G m s := by
  obtain ⟨D, h1, h2⟩ := h; exact ⟨D, h1, h2.mono hn⟩
theorem Since.same {w w' : World} {G n : Nat} {s : Int → Int} (h : Since w G n s) (hw : w'.heap[G]? = w.heap[G]?) : Since w' G n s := by
  obtain ⟨D, h1, es, clock, h2, h3⟩ := h
  exact ⟨D, h1, es, clock, hw.trans h2, h3⟩
theorem Since.read {w : World} {G n : Nat} {s : Int → Int} (h : Since w G n s) {x : Int} (h1 : -9223372036854775808 ≤ x) (h2 : x ≤ 9223372036854775807) :
    (Instr.lookup 42 (.map (some G)) (.int .i64 x) false).run Tryd.prog w = .ok (.int .i64 (s x)) w := by
  obtain ⟨D, hD, ho⟩ := h
  have hkey : keyOf Tryd.prog 3 (.int .i64 x) = some (Lit.int .i64 x) := keyOf_int_mk Tryd.underlying3 (WalkArith.wf_i64 (by omega))
  obtain ⟨c, hrun, hat, _⟩ := ho.lookup_int intKey Tryd.underlying42 Tryd.underlying3 (intZero _) hkey
  have e := hD.at_ x
  rw [hat] at e
  simp at e
  rw [← e]; exact hrun
theorem Since.put {w : World} {G n : Nat} {s : Int → Int} (h : Since w G n s) (hn : n ≤ 1000000) {x t : Int} (h1 : -9223372036854775808 ≤ x) (h2 : x ≤ 9223372036854775807) (h3 : -9223372036854775808 ≤ t) (h4 : t ≤ 9223372036854775807) :
    ∃ w', (Instr.mapUpdate 42 (.map (some G)) (.int .i64 x) (.int .i64 t)).run Tryd.prog w = .ok () w' ∧ Since w' G (n + 1) (upd s x t) ∧ w.grownBy w' (some G) := by
  obtain ⟨D, hD, ho⟩ := h
  have hkey : keyOf Tryd.prog 3 (.int .i64 x) = some (Lit.int .i64 x) := keyOf_int_mk Tryd.underlying3 (WalkArith.wf_i64 (by omega))
  obtain ⟨w3, hupd, hown3, hg3⟩ := ho.update intKey Tryd.underlying42 (by unfold maxLen; omega) hkey (plainElem_int Tryd.underlying3 (a := t) (WalkArith.wf_i64 (by omega)))
  exact ⟨w3, hupd, ⟨_, hD.put x t, hown3⟩, hg3⟩
theorem Only.grown {w w' : World} {G : Nat} (h : w.grownBy w' (some G)) : Only w w' (fun k => k = G) :=
  ⟨h.os, h.tape, h.output, h.size, fun k hk hn => h.block k hk fun e => hn (by cases e; rfl)⟩

/-- all at hand are pages -/
def Pages (xs : List Int) : Prop := ∀ v ∈ xs, 0 ≤ v ∧ v ≤ 1000000

theorem box_cell (w : World) (v : Value) (t : TypeId) : (w.alloc (.cells #[v] t)).cell? ⟨w.heap.size, 0, none⟩ = some v := by
  obtain ⟨g, hg⟩ : ∃ g, g = w.heap.size := ⟨_, rfl⟩
  have h : (w.alloc (.cells #[v] t)).heap[g]? = some (.cells #[v] t (0, 0)) := by rw [hg]; exact heap_alloc_new w _
  rw [← hg]
  simp [World.cell?, h]
theorem fifo_goes (xs : List Int) (s : Int → Int) (G n : Nat) (at_ : Int) (a : Option Addr) (cap : Nat) (w : World) (hx : Ints w a xs) (hl : xs.length ≤ 8) (h0 : 0 < xs.length) (hp : Pages xs) (hs : Since w G n s) :
    Calls Tryd.prog 48 #[.agg #[.map (some G)], .slice a xs.length cap, .int .i64 at_] w fun e w' => e = .returned (.int .i64 (lo s xs xs.length : Nat)) ∧ Below w.heap.size w w' := by
  have hb0 : Below w.heap.size w (w.alloc (.cells #[.map (some G)] 44)) := (Below.refl _ _).alloc (Nat.le_refl _) _
  have hs' := hs.same (hb0.block G hs.lt)
  obtain ⟨b, o, rfl, hc⟩ := (hx.below hb0).open h0
  have hbox := box_cell w (.map (some G)) 44
  go_enter Tryd.func48, Tryd.ntmps48
  go_wp2
  clear hs hx
  generalize w.alloc (.cells #[.map (some G)] 44) = W at hb0 hs' hc hbox ⊢
  have Hb0 := Lib.hid hb0
  clear hb0
  go_loopw [7, 12] (fun best i wr => ∃ k : Nat, i = .int .i64 k ∧ k ≤ xs.length ∧ best = .int .i64 (lo s xs k : Nat) ∧ ∃ q, wr = W.drewN q) (fun _ i _ => xs.length - (intOf i).toNat)
  case atStart => exact ⟨0, rfl, Nat.zero_le _, rfl, 0, rfl⟩
  case round =>
    obtain ⟨k, rfl, hk, rfl, q, rfl⟩ := hrel
    rcases Nat.lt_or_ge k xs.length with hlt | hge
    · have hll := lo_lt s xs k hk h0
      have c1 := hc k hlt
      have c2 := hc _ hll
      have p1 := hp _ (getD_in hlt)
      have p2 := hp _ (getD_in hll)
      have e : lo s xs (k + 1) = if s (xs.getD k 0) < s (xs.getD (lo s xs k) 0) then k else lo s xs k := rfl
      generalize lo s xs k = m at *
      have m1 := fun q => (hs'.drewN q).read (x := xs.getD k 0) (by omega) (by omega)
      have m2 := fun q => (hs'.drewN q).read (x := xs.getD m 0) (by omega) (by omega)
      generalize xs.getD k 0 = u at *
      generalize xs.getD m 0 = v at *
      generalize s u = su at *
      generalize s v = sv at *
      have E := Lib.hid e
      clear e hc
      have hmI : (m : Int) < xs.length := by omega
      rcases Int.lt_or_le su sv with h | h
      · have E2 : lo s xs (k + 1) = k := by rw [E.out, if_pos h]
        have E3 := Lib.hid E2
        clear E2 E
        go_wp2
        go_quiet (fail)
        go_wp2
        go_roundw
        case rel => exact ⟨k + 1, by go_num, by omega, by rw [E3.out], _, by first | rfl | rw [World.drewN_drewN]⟩
        case measure => simp only [intOf]; omega
      · have E2 : lo s xs (k + 1) = m := by rw [E.out, if_neg (by omega)]
        have E3 := Lib.hid E2
        clear E2 E
        go_wp2
        go_quiet (fail)
        go_wp2
        go_roundw
        case rel => exact ⟨k + 1, by go_num, by omega, by rw [E3.out], _, by first | rfl | rw [World.drewN_drewN]⟩
        case measure => simp only [intOf]; omega
    · obtain rfl : xs.length = k := by omega
      have h3 : decide (xs.length < xs.length) = false := by simp
      go_wp2
      go_ret
      exact ⟨rfl, drewN_below Hb0.out _⟩

theorem fifo_met_no (G : Nat) (p t : Int) (w : World) :
    Calls Tryd.prog 49 #[.agg #[.map (some G)], .int .i64 p, .int .i64 t, .bool false] w fun e w' => e = .returned (.tuple #[]) ∧ Below w.heap.size w w' := by
  have hb0 : Below w.heap.size w (w.alloc (.cells #[.map (some G)] 44)) := (Below.refl _ _).alloc (Nat.le_refl _) _
  have Hb0 := Lib.hid hb0
  clear hb0
  go_enter Tryd.func49, Tryd.ntmps49
  go_wp2
  go_end0
  exact ⟨rfl, Hb0.out⟩
theorem fifo_met_yes (G n : Nat) (s : Int → Int) (p t : Int) (w : World) (hs : Since w G n s) (hn : n ≤ 1000000) (h1 : 0 ≤ p) (h2 : p ≤ 1000000) (h3 : 0 ≤ t) (h4 : t ≤ 1000000) :
    Calls Tryd.prog 49 #[.agg #[.map (some G)], .int .i64 p, .int .i64 t, .bool true] w fun e w' => e = .returned (.tuple #[]) ∧ Since w' G (n + 1) (upd s p t) ∧ Only w w' (fun k => k = G) := by
  have hb0 : Below w.heap.size w (w.alloc (.cells #[.map (some G)] 44)) := (Below.refl _ _).alloc (Nat.le_refl _) _
  have hs' := hs.same (hb0.block G hs.lt)
  have hbox := box_cell w (.map (some G)) 44
  obtain ⟨w3, hupd, hs3, hg3⟩ := hs'.put hn (x := p) (t := t) (by omega) (by omega) (by omega) (by omega)
  have Hs3 := Lib.hid hs3
  have Hg3 := Lib.hid ((Only.alloc w (.cells #[.map (some G)] 44) (fun k => k = G)).trans (Only.grown hg3) (fun _ _ h => h))
  clear hs hs' hs3 hg3 hb0
  go_enter Tryd.func49, Tryd.ntmps49
  go_wp2
  go_end0
  exact ⟨rfl, Hs3.out, Hg3.out⟩
theorem lru_met (G n : Nat) (s : Int → Int) (p t : Int) (b : Bool) (w : World) (hs : Since w G n s) (hn : n ≤ 1000000) (h1 : 0 ≤ p) (h2 : p ≤ 1000000) (h3 : 0 ≤ t) (h4 : t ≤ 1000000) :
    Calls Tryd.prog 50 #[.agg #[.map (some G)], .int .i64 p, .int .i64 t, .bool b] w fun e w' => e = .returned (.tuple #[]) ∧ Since w' G (n + 1) (upd s p t) ∧ Only w w' (fun k => k = G) := by
  have hb0 : Below w.heap.size w (w.alloc (.cells #[.map (some G)] 46)) := (Below.refl _ _).alloc (Nat.le_refl _) _
  have hs' := hs.same (hb0.block G hs.lt)
  have hbox := box_cell w (.map (some G)) 46
  have H := Lib.hid (fifo_met_yes G n s p t _ hs' hn h1 h2 h3 h4)
  have HO := Lib.hid (Only.alloc w (.cells #[.map (some G)] 46) (fun k => k = G))
  clear hs hs' hb0
  go_enter Tryd.func50, Tryd.ntmps50
  go_wp2_with fail
  refine H.out.mono ?_
  rintro e w' ⟨rfl, h1, h2⟩
  have H1 := Lib.hid h1
  have H2 := Lib.hid (HO.out.trans h2 (fun _ _ h => h))
  clear h1 h2 H HO hbox
  go_wp2
  go_end0
  exact ⟨rfl, H1.out, H2.out⟩
theorem far_met (v : Value) (p t : Int) (b : Bool) (w : World) :
    Calls Tryd.prog 52 #[.agg #[v], .int .i64 p, .int .i64 t, .bool b] w fun e w' => e = .returned (.tuple #[]) ∧ Below w.heap.size w w' := by
  have hb0 : Below w.heap.size w (w.alloc (.cells #[v] 48)) := (Below.refl _ _).alloc (Nat.le_refl _) _
  have Hb0 := Lib.hid hb0
  clear hb0
  go_enter Tryd.func52, Tryd.ntmps52
  go_wp2
  go_end0
  exact ⟨rfl, Hb0.out⟩
end Go.Proofs.YtmlnegcffeghcaaDoor
