/- WALKS: slices.stableCmpFunc, SortStableFunc of items by key, up to 60. · WALKS: slices.SortStableFunc of items by key (up to 60), slices.Clone. · WALK: slices.Clone of items that came in. · WALK: order.Sort. · WALKS: slices.IsSortedFunc by byKey, order.Sorted: items whose keys do not fall. · WALKS: order.Sort of no items. -/
import Derived.Test.YtienepcknafddaaDoorM4
import Derived.Test.YtienepcknafddaaDoorM1
import Derived.Laws.Cover3
section
set_option linter.unusedVariables false
set_option linter.unusedSimpArgs false
namespace Go.Proofs.YtienepcknafddaaDoor
open Go Go.RowKit SimPlain HeapPlain SymPlain

/-- the first list turned in one stretch -/
def Turned (l0 l : List Ev) (a b : Nat) (g cap B : Nat) (w : World) (e : Ending) (w' : World) : Prop :=
  e = .returned (.tuple #[]) ∧ ∃ W, W.length = b - a ∧ Seg Lt l0 (l.take a ++ (W ++ l.drop b)) a b ∧ CutAt (l.take a ++ (W ++ l.drop b)) g cap B w w'
theorem ins_at (l0 l : List Ev) (hl : l.length = l0.length) (hbef : l0.Pairwise Bef) (N a b : Nat) (hN : N = l.length) (h100 : N ≤ 100) (hab : a ≤ b) (hbN : b ≤ N) (h0 : 0 < N) (hraw : l.drop a = l0.drop a) (g cap B : Nat) (w : World) (hrow : EtOwn w B (some ⟨g, 0, none⟩) cap l) :
    Calls Tryd.prog 55 #[.slice (some ⟨g, 0, none⟩) N cap, .int .i64 a, .int .i64 b, fvK] w (Turned l0 l a b g cap B w) := by
  obtain ⟨c1, c2, c3⟩ := cut3 l hab (by omega)
  have hU : ((l.drop a).take (b - a)).Pairwise Bef := by
    rw [hraw]; exact (hbef.sublist (List.drop_sublist _ _)).sublist (List.take_sublist _ _)
  have hgw := lt_of_block (hrow.block (by omega)).choose_spec
  refine (insertion_any (l.take a) ((l.drop a).take (b - a)) (l.drop b) g cap B w N a b (by rw [← c1]; exact hN) c2.symm (by rw [c2, c3]; omega) hU h100 hgw (by rw [← c1]; exact hrow)).mono ?_
  rintro e w' ⟨W, rfl, hp, hs, hr, ho⟩
  refine ⟨rfl, W, by rw [hp.length_eq, c3], Seg.new hab (by omega) (by rw [← hraw]; exact hp) hs hl, hr, ho⟩
theorem sym_at (l0 l : List Ev) (hl : l.length = l0.length) (hbef : l0.Pairwise Bef) (N a m b : Nat) (hN : N = l.length) (h100 : N ≤ 100) (ham : a < m) (hmb : m < b) (hbN : b ≤ N) (hU : Seg Lt l0 l a m) (hV : Seg Lt l0 l m b) (g cap B : Nat) (w : World) (hrow : EtOwn w B (some ⟨g, 0, none⟩) cap l) :
    Calls Tryd.prog 56 #[.slice (some ⟨g, 0, none⟩) N cap, .int .i64 a, .int .i64 m, .int .i64 b, fvK] w (Turned l0 l a b g cap B w) := by
  obtain ⟨c1, c2, c3⟩ := cut3 l (show a ≤ b by omega) (by omega)
  have e2 := stretch_two l (show a ≤ m by omega) (show m ≤ b by omega)
  have lu : ((l.drop a).take (m - a)).length = m - a := by rw [List.length_take, List.length_drop]; omega
  have lv : ((l.drop m).take (b - m)).length = b - m := by rw [List.length_take, List.length_drop]; omega
  have c1' : l = l.take a ++ ((l.drop a).take (m - a) ++ ((l.drop m).take (b - m) ++ l.drop b)) := by
    rw [e2, List.append_assoc] at c1; exact c1
  refine (sym_any (b - a) (l.take a) ((l.drop a).take (m - a)) ((l.drop m).take (b - m)) (l.drop b) g cap B w N a m b (by rw [← c1']; exact hN) c2.symm (by rw [lu]; omega) (by rw [lv]; omega) (by omega) (by omega) hU.sorted hV.sorted
    (seg_bef hbef (by omega) (by omega) hU hV) h100 (by rw [← c1']; exact hrow) (by omega)).mono ?_
  rintro e w' ⟨W, rfl, hp, hs, hr, ho⟩
  refine ⟨rfl, W, by rw [hp.length_eq, ← e2, c3], Seg.new (by omega) (by omega) (hp.trans ?_) hs hl, hr, ho⟩
  rw [stretch_two l0 (show a ≤ m by omega) (show m ≤ b by omega)]
  exact hU.perm.append hV.perm
/-- what the first loop keeps: blocks of twenty -/
structure One (l0 l : List Ev) (a : Nat) : Prop where
  at_ : a = 0 ∨ a = 20 ∨ a = 40 ∨ a = 60
  len : l.length = l0.length
  s0 : 20 ≤ a → Seg Lt l0 l 0 20
  s1 : 40 ≤ a → Seg Lt l0 l 20 40
  s2 : 60 ≤ a → Seg Lt l0 l 40 60
  raw : l.drop a = l0.drop a
theorem One.step {l0 l W : List Ev} {a : Nat} (h : One l0 l a) (hb : a + 20 ≤ l.length) (h60 : l.length ≤ 60) (hW : W.length = a + 20 - a) (hs : Seg Lt l0 (l.take a ++ (W ++ l.drop (a + 20))) a (a + 20)) : One l0 (l.take a ++ (W ++ l.drop (a + 20))) (a + 20) := by
  have hlen := turned_length (a := a) (b := a + 20) (by omega) hb hW
  have old : ∀ s e, e ≤ a → Seg Lt l0 l s e → Seg Lt l0 (l.take a ++ (W ++ l.drop (a + 20))) s e := fun s e he k => k.old (by omega) hb hW (.inl he)
  have ha := h.at_
  refine ⟨by omega, hlen.trans h.len, fun c => ?_, fun c => ?_, fun c => ?_, ?_⟩
  · rcases Nat.lt_or_ge a 20 with d | d
    · obtain rfl : a = 0 := by omega
      exact hs
    · exact old _ _ d (h.s0 d)
  · rcases Nat.lt_or_ge a 40 with d | d
    · obtain rfl : a = 20 := by omega
      exact hs
    · exact old _ _ d (h.s1 d)
  · rcases Nat.lt_or_ge a 60 with d | d
    · obtain rfl : a = 40 := by omega
      exact hs
    · exact old _ _ d (h.s2 d)
  · have e0 : l.drop (a + 20) = l0.drop (a + 20) := by
      have := congrArg (fun t => t.drop 20) h.raw
      simpa [List.drop_drop] using this
    have c2 : (l.take a).length = a := by rw [List.length_take]; omega
    rw [← List.append_assoc, List.drop_append_of_le_length (by rw [List.length_append, c2, hW]; omega), List.drop_of_length_le (by rw [List.length_append, c2, hW]; omega), List.nil_append, e0]
/-- what the second loop keeps -/
def Two20 (l0 l : List Ev) (N t : Nat) : Prop :=
  (t = 20 ∧ Seg Lt l0 l 0 (min 20 N) ∧ Seg Lt l0 l 20 (min 40 N) ∧ Seg Lt l0 l 40 N) ∨ (t = 40 ∧ 20 < N ∧ Seg Lt l0 l 0 (min 40 N) ∧ Seg Lt l0 l 40 N) ∨ (t = 80 ∧ 40 < N ∧ Seg Lt l0 l 0 N)
theorem One.last {l0 l W : List Ev} {a N : Nat} (h : One l0 l a) (hN : N = l.length) (haN : a ≤ N) (hN2 : N < a + 20) (h60 : N ≤ 60) (hW : W.length = N - a) (hs : Seg Lt l0 (l.take a ++ (W ++ l.drop N)) a N) : Two20 l0 (l.take a ++ (W ++ l.drop N)) N 20 := by
  have hlen := (turned_length (a := a) (b := N) haN (by omega) hW).trans h.len
  have hlen' : (l.take a ++ (W ++ l.drop N)).length = N := by rw [hlen, ← h.len]; exact hN.symm
  have old : ∀ s e, e ≤ a → Seg Lt l0 l s e → Seg Lt l0 (l.take a ++ (W ++ l.drop N)) s e := fun s e he k => k.old haN (by omega) hW (.inl he)
  have none : ∀ s e, N ≤ s → Seg Lt l0 (l.take a ++ (W ++ l.drop N)) s e := fun s e hse => Seg.none (.inr (by omega)) hlen
  refine .inl ⟨rfl, ?_, ?_, ?_⟩
  · rcases h.at_ with c | c | c | c
    · subst c; rw [Nat.min_eq_right (by omega)]; exact hs
    all_goals rw [Nat.min_eq_left (by omega)]; exact old _ _ (by omega) (h.s0 (by omega))
  · rcases h.at_ with c | c | c | c
    · exact none _ _ (by omega)
    · subst c; rw [Nat.min_eq_right (by omega)]; exact hs
    all_goals rw [Nat.min_eq_left (by omega)]; exact old _ _ (by omega) (h.s1 (by omega))
  · rcases h.at_ with c | c | c | c
    · exact none _ _ (by omega)
    · exact none _ _ (by omega)
    · subst c; exact hs
    · obtain rfl : N = 60 := by omega
      exact old _ _ (by omega) (h.s2 (by omega))
theorem Two20.done {l0 l : List Ev} {N t : Nat} (h : Two20 l0 l N t) (ht : N ≤ t) (h60 : N ≤ 60) (hN : N = l.length) (hl : l.length = l0.length) : l.Perm l0 ∧ l.Pairwise Lt := by
  have key : Seg Lt l0 l 0 N := by
    rcases h with ⟨c, s, _, _⟩ | ⟨c, _, s, _⟩ | ⟨c, _, s⟩
    · rw [Nat.min_eq_right (by omega)] at s; exact s
    · rw [Nat.min_eq_right (by omega)] at s; exact s
    · exact s
  subst hN
  exact key.full hl
def StableRes (l0 : List Ev) (g cap B : Nat) (w : World) (e : Ending) (w' : World) : Prop := ∃ W, e = .returned (.tuple #[]) ∧ W.Perm l0 ∧ W.Pairwise Lt ∧ CutAt W g cap B w w'
def Mid20 (l0 l : List Ev) (N a b : Nat) : Prop :=
  (a = 0 ∧ b = 40 ∧ Seg Lt l0 l 0 20 ∧ Seg Lt l0 l 20 (min 40 N) ∧ Seg Lt l0 l 40 N) ∨ (a = 40 ∧ b = 80 ∧ 40 ≤ N ∧ Seg Lt l0 l 0 40 ∧ Seg Lt l0 l 40 N)
set_option maxRecDepth 100000 in
set_option maxHeartbeats 4000000 in
theorem stable_any (l0 : List Ev) (hbef : l0.Pairwise Bef) (N : Nat) (hN : N = l0.length) (h60 : N ≤ 60) (h0 : 0 < N) (g cap B : Nat) (w : World) (hrow : EtOwn w B (some ⟨g, 0, none⟩) cap l0) :
    Calls Tryd.prog 47 #[.slice (some ⟨g, 0, none⟩) N cap, .int .i64 N, fvK] w (StableRes l0 g cap B w) := by
  have HBf := Lib.hid hbef
  have HN := Lib.hid hN
  have HRow := Lib.hid hrow
  have HI := Lib.hid ins_at
  have HS := Lib.hid sym_at
  clear hbef hN hrow
  unfold fvK at *
  go_enter Tryd.func47, Tryd.ntmps47
  go_wp2
  go_loopw [7, 8] (fun av bv wr => ∃ (a b : Nat) (l : List Ev), av = .int .i64 a ∧ bv = .int .i64 b ∧ b = a + 20 ∧ a ≤ N ∧ One l0 l a ∧ CutAt l g cap B w wr) (fun av _ _ => 60 - (intOf av).toNat)
  case atStart => exact ⟨0, 20, l0, rfl, rfl, rfl, Nat.zero_le _, ⟨.inl rfl, rfl, fun c => absurd c (by decide), fun c => absurd c (by decide), fun c => absurd c (by decide), rfl⟩, HRow.out, Only.refl _ _⟩
  case round =>
    obtain ⟨a, b, l, rfl, rfl, hb, haN, hO, hC⟩ := hrel
    have hNl : N = l.length := by rw [hO.len]; exact HN.out
    have HO := Lib.hid hO
    have HC := Lib.hid hC
    have Hb := Lib.hid hb
    have HNl := Lib.hid hNl
    rcases Nat.lt_or_ge N b with hlt | hle
    · have h1 : (N : Int) < (b : Int) := by omega
      have h2 : decide ((b : Int) ≤ (N : Int)) = false := decide_eq_false (by omega)
      have h3 : decide (b ≤ N) = false := decide_eq_false (by omega)
      have hI := HI.out l0 l hO.len HBf.out N a N hNl (by omega) haN (Nat.le_refl _) h0 hO.raw g cap B wr hC.1
      have hI' := Lib.hid hI
      have Hlt := Lib.hid hlt
      have HaN := Lib.hid haN
      clear hI hlt hO hC hNl hb
      go_wp2_with fail
      refine hI'.out.mono ?_
      rintro e w2 ⟨rfl, W, hW, hs, hc⟩
      have hT := HO.out.last HNl.out HaN.out (by have := Hb.out; have := Hlt.out; omega) h60 hW hs
      have hlen := (turned_length (a := a) (b := N) HaN.out (by have := HNl.out; omega) hW).trans HO.out.len
      generalize l.take a ++ (W ++ l.drop N) = l2 at hs hc hT hlen
      have HT := Lib.hid hT
      have HL := Lib.hid hlen
      have HC2 : Hid (CutAt l2 g cap B w w2) := Lib.hid ⟨hc.1, HC.out.2.trans hc.2 (fun _ _ c => c)⟩
      clear hT hlen hc hs hW h1 h2 h3
      go_wp2
      go_loopw [6] (fun tv wr => ∃ (t : Nat) (l : List Ev), tv = .int .i64 t ∧ Two20 l0 l N t ∧ l.length = l0.length ∧ CutAt l g cap B w wr) (fun tv _ => 80 - (intOf tv).toNat)
      case atStart => exact ⟨20, l2, rfl, HT.out, HL.out, HC2.out⟩
      case round =>
        obtain ⟨t, l3, rfl, hT3, hL3, hC3⟩ := hrel
        have HT3 := Lib.hid hT3
        have HL3 := Lib.hid hL3
        have HC3 := Lib.hid hC3
        have HN3 : Hid (N = l3.length) := Lib.hid (by rw [hL3]; exact HN.out)
        clear hL3 hC3
        rcases Nat.lt_or_ge t N with ht | ht
        · rcases hT3 with ⟨rfl, s0, s1, s2⟩ | ⟨rfl, _, s0, s1⟩ | ⟨rfl, _, _⟩
          · rw [show ((20 : Nat) : Int) = 20 from rfl]
            have ht1 : (20 : Int) < (N : Int) := by omega
            have hM : Mid20 l0 l3 N 0 40 := .inl ⟨rfl, rfl, by rw [Nat.min_eq_left (by omega)] at s0; exact s0, s1, s2⟩
            have HM := Lib.hid hM
            clear s0 s1 s2 hM
            go_wp2
            go_loopw [7, 8] (fun av bv wk => ∃ (a b : Nat) (l : List Ev), av = .int .i64 a ∧ bv = .int .i64 b ∧ Mid20 l0 l N a b ∧ l.length = l0.length ∧ CutAt l g cap B w wk) (fun av _ _ => 100 - (intOf av).toNat)
            case atStart => exact ⟨0, 40, l3, rfl, rfl, HM.out, HL3.out, HC3.out⟩
            case round =>
              obtain ⟨a4, b4, l4, rfl, rfl, hM4, hL4, hC4⟩ := hrel
              have HL4 := Lib.hid hL4
              have HC4 := Lib.hid hC4
              have hN4 : N = l4.length := by rw [hL4]; exact HN.out
              have HN4 := Lib.hid hN4
              rcases hM4 with ⟨rfl, rfl, s0, s1, s2⟩ | ⟨rfl, rfl, h40, s0, s1⟩
              · rw [show ((0 : Nat) : Int) = 0 from rfl, show ((40 : Nat) : Int) = 40 from rfl]
                rcases Nat.lt_or_ge N 40 with hN40 | hN40
                · have g1 : decide ((40 : Int) ≤ (N : Int)) = false := decide_eq_false (by omega)
                  have g2 : decide (40 ≤ N) = false := decide_eq_false (by omega)
                  rw [Nat.min_eq_right (by omega)] at s1
                  have hS := HS.out l0 l4 hL4 HBf.out N 0 20 N hN4 (by omega) (by omega) (by omega) (Nat.le_refl _) s0 s1 g cap B wr hC4.1
                  have HSy := Lib.hid hS
                  have H40 := Lib.hid hN40
                  clear hS s0 s1 s2 hL4 hC4 hN4 hN40
                  go_wp2_with fail
                  refine HSy.out.mono ?_
                  rintro e w5 ⟨rfl, W5, hW5, hs5, hc5⟩
                  have hlen := (turned_length (a := 0) (b := N) (Nat.zero_le _) (by have := HN4.out; omega) hW5).trans HL4.out
                  generalize l4.take 0 ++ (W5 ++ l4.drop N) = l5 at hs5 hc5 hlen
                  have HT5 : Hid (Two20 l0 l5 N 40) := Lib.hid (.inr (.inl ⟨rfl, by omega, by rw [Nat.min_eq_right (by have := H40.out; omega)]; exact hs5, Seg.none (.inl (by have := H40.out; omega)) hlen⟩))
                  have HL5 := Lib.hid hlen
                  have HC5 : Hid (CutAt l5 g cap B w w5) := Lib.hid ⟨hc5.1, HC4.out.2.trans hc5.2 (fun _ _ c => c)⟩
                  clear hW5 hs5 hc5 hlen
                  go_wp2
                  go_roundw
                  case rel => exact ⟨40, l5, by first | rfl | go_num, HT5.out, HL5.out, HC5.out⟩
                  case measure => decide
                · have g1 : (40 : Int) ≤ (N : Int) := by omega
                  rw [Nat.min_eq_left (by omega)] at s1
                  have hS := HS.out l0 l4 hL4 HBf.out N 0 20 40 hN4 (by omega) (by omega) (by omega) (by omega) s0 s1 g cap B wr hC4.1
                  have HSy := Lib.hid hS
                  have H40 := Lib.hid hN40
                  have HS2 := Lib.hid s2
                  clear hS s0 s1 s2 hL4 hC4 hN4 hN40
                  go_wp2_with fail
                  refine HSy.out.mono ?_
                  rintro e w5 ⟨rfl, W5, hW5, hs5, hc5⟩
                  have hlen := (turned_length (a := 0) (b := 40) (Nat.zero_le _) (by have := HN4.out; have := H40.out; omega) hW5).trans HL4.out
                  have hs6 := HS2.out.old (a := 0) (b := 40) (Nat.zero_le _) (by have := HN4.out; have := H40.out; omega) hW5 (.inr (Nat.le_refl _))
                  generalize l4.take 0 ++ (W5 ++ l4.drop 40) = l5 at hs5 hc5 hlen hs6
                  have HT5 : Hid (Mid20 l0 l5 N 40 80) := Lib.hid (.inr ⟨rfl, rfl, H40.out, hs5, hs6⟩)
                  have HL5 := Lib.hid hlen
                  have HC5 : Hid (CutAt l5 g cap B w w5) := Lib.hid ⟨hc5.1, HC4.out.2.trans hc5.2 (fun _ _ c => c)⟩
                  clear hW5 hs5 hc5 hlen hs6
                  go_wp2
                  go_roundw
                  case rel => exact ⟨40, 80, l5, by first | rfl | go_num, by first | rfl | go_num, HT5.out, HL5.out, HC5.out⟩
                  case measure => decide
              · rw [show ((40 : Nat) : Int) = 40 from rfl, show ((80 : Nat) : Int) = 80 from rfl]
                have g1 : decide ((80 : Int) ≤ (N : Int)) = false := decide_eq_false (by omega)
                have g2 : decide (80 ≤ N) = false := decide_eq_false (by omega)
                have g3 : decide ((60 : Int) < (N : Int)) = false := decide_eq_false (by omega)
                have g4 : decide (60 < N) = false := decide_eq_false (by omega)
                have HT5 : Hid (Two20 l0 l4 N 40) := Lib.hid (.inr (.inl ⟨rfl, by omega, by rw [Nat.min_eq_left (by omega)]; exact s0, s1⟩))
                clear s0 s1 hL4 hC4 hN4
                go_wp2
                go_roundw
                case rel => exact ⟨40, l4, by first | rfl | go_num, HT5.out, HL4.out, HC4.out⟩
                case measure => decide
          · rw [show ((40 : Nat) : Int) = 40 from rfl]
            have ht1 : (40 : Int) < (N : Int) := by omega
            have g1 : decide ((80 : Int) ≤ (N : Int)) = false := decide_eq_false (by omega)
            have g2 : decide (80 ≤ N) = false := decide_eq_false (by omega)
            rw [Nat.min_eq_left (by omega)] at s0
            have hS := HS.out l0 l3 HL3.out HBf.out N 0 40 N HN3.out (by omega) (by omega) ht (Nat.le_refl _) s0 s1 g cap B wr HC3.out.1
            have HSy := Lib.hid hS
            have H40 := Lib.hid ht
            clear hS s0 s1
            go_wp2
            refine wp_loop_rounds 1 ?_
            rw [rounds_succ]
            go_wp2_with fail
            refine HSy.out.mono ?_
            rintro e w5 ⟨rfl, W5, hW5, hs5, hc5⟩
            have hlen := (turned_length (a := 0) (b := N) (Nat.zero_le _) (by have := HN3.out; omega) hW5).trans HL3.out
            generalize l3.take 0 ++ (W5 ++ l3.drop N) = l5 at hs5 hc5 hlen
            have HT5 : Hid (Two20 l0 l5 N 80) := Lib.hid (.inr (.inr ⟨rfl, H40.out, hs5⟩))
            have HL5 := Lib.hid hlen
            have HC5 : Hid (CutAt l5 g cap B w w5) := Lib.hid ⟨hc5.1, HC3.out.2.trans hc5.2 (fun _ _ c => c)⟩
            clear hW5 hs5 hc5 hlen
            go_wp2
            go_roundw
            case rel => exact ⟨80, l5, by first | rfl | go_num, HT5.out, HL5.out, HC5.out⟩
            case measure => decide
          · omega
        · have g1 : decide ((t : Int) < (N : Int)) = false := decide_eq_false (by omega)
          have g2 : decide (t < N) = false := decide_eq_false (by omega)
          obtain ⟨hp, hs⟩ := hT3.done ht h60 HN3.out HL3.out
          have HP := Lib.hid hp
          have HSo := Lib.hid hs
          clear hp hs hT3 ht
          go_wp2
          go_end0
          exact ⟨l3, rfl, HP.out, HSo.out, HC3.out⟩
    · have h1 : (b : Int) ≤ (N : Int) := by omega
      have hI := HI.out l0 l hO.len HBf.out N a b hNl (by omega) (by omega) hle h0 hO.raw g cap B wr hC.1
      have hI' := Lib.hid hI
      have Hle := Lib.hid hle
      clear hI hle hO hC hNl hb
      go_wp2_with fail
      refine hI'.out.mono ?_
      rintro e w2 ⟨rfl, W, hW, hs, hc⟩
      have hT : One l0 (l.take a ++ (W ++ l.drop b)) b := by
        have hb := Hb.out
        have h2 := Hle.out
        have h3 := HNl.out
        subst hb
        exact HO.out.step (by omega) (by omega) hW hs
      generalize l.take a ++ (W ++ l.drop b) = l2 at hs hc hT
      have HT := Lib.hid hT
      have HC2 : Hid (CutAt l2 g cap B w w2) := Lib.hid ⟨hc.1, HC.out.2.trans hc.2 (fun _ _ c => c)⟩
      clear hT hc hs hW
      go_wp2
      go_roundw
      case rel => exact ⟨b, b + 20, l2, rfl, by go_num, rfl, Hle.out, HT.out, HC2.out⟩
      case measure => simp only [intOf]; have := Hb.out; have := Hle.out; omega
end Go.Proofs.YtienepcknafddaaDoor
end

section
set_option linter.unusedVariables false
set_option linter.unusedSimpArgs false
namespace Go.Proofs.YtienepcknafddaaDoor
open Go Go.RowKit SimPlain HeapPlain SymPlain

theorem sortStable_any (l0 : List Ev) (hbef : l0.Pairwise Bef) (N : Nat) (hN : N = l0.length) (h60 : N ≤ 60) (h0 : 0 < N) (g cap B : Nat) (w : World) (hrow : EtOwn w B (some ⟨g, 0, none⟩) cap l0) :
    Calls Tryd.prog 33 #[.slice (some ⟨g, 0, none⟩) N cap, fvK] w (StableRes l0 g cap B w) := by
  have hS := Lib.hid (stable_any l0 hbef N hN h60 h0 g cap B w hrow)
  clear hbef hN hrow
  unfold fvK at *
  go_enter Tryd.func33, Tryd.ntmps33
  go_wp2_with fail
  refine hS.out.mono ?_
  rintro e w2 ⟨W, rfl, hp, hs, hc⟩
  go_wp2
  go_end0
  exact ⟨W, rfl, hp, hs, hc⟩
/-- nothing to sort -/
theorem sortStable_none (a : Option Addr) (cap : Nat) (w : World) :
    Calls Tryd.prog 33 #[.slice a 0 cap, fvK] w fun e w' => e = .returned (.tuple #[]) ∧ w = w' := by
  have h1 : Hid (Calls Tryd.prog 55 #[.slice a 0 cap, .int .i64 0, .int .i64 0, fvK] w fun e w' => e = .returned (.tuple #[]) ∧ w = w') := Lib.hid <| by
    unfold fvK
    go_enter Tryd.func55, Tryd.ntmps55
    go_wp2
    refine wp_loop_rounds 1 ?_
    rw [rounds_succ]
    go_wp2
    go_end0
    exact ⟨rfl, rfl⟩
  have h2 : Hid (Calls Tryd.prog 47 #[.slice a 0 cap, .int .i64 0, fvK] w fun e w' => e = .returned (.tuple #[]) ∧ w = w') := Lib.hid <| by
    unfold fvK at *
    go_enter Tryd.func47, Tryd.ntmps47
    go_wp2
    refine wp_loop_rounds 1 ?_
    rw [rounds_succ]
    go_wp2_with fail
    refine h1.out.mono ?_
    rintro e w2 ⟨rfl, rfl⟩
    go_wp2
    refine wp_loop_rounds 1 ?_
    rw [rounds_succ]
    go_wp2
    go_end0
    exact ⟨rfl, rfl⟩
  clear h1
  unfold fvK at *
  go_enter Tryd.func33, Tryd.ntmps33
  go_wp2_with fail
  refine h2.out.mono ?_
  rintro e w2 ⟨rfl, rfl⟩
  go_wp2
  go_end0
  exact ⟨rfl, rfl⟩
end Go.Proofs.YtienepcknafddaaDoor
end

section
set_option linter.unusedVariables false
set_option linter.unusedSimpArgs false
namespace Go.Proofs.YtienepcknafddaaDoor
open Go Go.RowKit SimPlain HeapPlain SymPlain

theorem EvA.from {w : World} {b off : Nat} {l : List Ev} (hc : ∀ i, i < l.length → w.cell? ⟨b, off + i * 2, none⟩ = some (.int .i64 (l.getD i e0).t) ∧ w.cell? ⟨b, off + i * 2 + 1, none⟩ = some (.int .i64 (l.getD i e0).id)) :
    ∀ j u, (flat2 l)[j]? = some u → w.cell? ((⟨b, off, none⟩ : Addr).add j) = some u := by
  intro j u hu
  have hj : j < l.length * 2 := by
    rw [← flat2_length]
    rcases Nat.lt_or_ge j (flat2 l).length with h | h
    · exact h
    · rw [List.getElem?_eq_none h] at hu; cases hu
  have e1 : j / 2 * 2 + j % 2 = j := by omega
  have h3 := flat2_get l (j / 2) (j % 2) (by omega) (by omega)
  rw [e1, hu] at h3
  obtain ⟨k0, k1⟩ := hc (j / 2) (by omega)
  have ea : ((⟨b, off, none⟩ : Addr).add j) = ⟨b, off + j, none⟩ := by unfold Addr.add; split <;> simp_all
  rw [ea]
  rcases (show j % 2 = 0 ∨ j % 2 = 1 by omega) with h | h
  · rw [h] at h3
    rw [show off + j = off + j / 2 * 2 by omega, k0, h3]; rfl
  · rw [h] at h3
    rw [show off + j = off + j / 2 * 2 + 1 by omega, k1, h3]; rfl
theorem eql_slice_nil (w : World) (a : Addr) (l c : Nat) : (binOp .eql 22 (.slice (some a) l c) (.slice none 0 0)).run Tryd.prog w = .ok (.bool false) w := by
  simp only [binOp]
  simp [run_equal_slice_nil w 22 34 (some a) l c Tryd.underlying22]
set_option maxRecDepth 100000 in
theorem clone_any (l : List Ev) (b off cap N : Nat) (w : World) (hN : N = l.length) (h0 : 0 < N) (h60 : N ≤ 60) (hb : b < w.heap.size)
    (hc : ∀ i, i < l.length → w.cell? ⟨b, off + i * 2, none⟩ = some (.int .i64 (l.getD i e0).t) ∧ w.cell? ⟨b, off + i * 2 + 1, none⟩ = some (.int .i64 (l.getD i e0).id)) :
    Calls Tryd.prog 32 #[.slice (some ⟨b, off, none⟩) N cap] w
      fun e w' => ∃ g c, e = .returned (.slice (some ⟨g, 0, none⟩) N c) ∧ EtOwn w' w.heap.size (some ⟨g, 0, none⟩) c l ∧ Below w.heap.size w w' := by
  obtain ⟨i0, hi0, hz0, hz1, hz2⟩ := info_parts etInfo
  have hl2 : (flat2 l).length = N * 2 := by rw [flat2_length, hN]
  have HN := Lib.hid hN
  have HL := Lib.hid hl2
  have HF : Hid (∀ w', Below w.heap.size w w' → ∀ j u, (flat2 l)[j]? = some u → w'.cell? ((⟨b, off, none⟩ : Addr).add j) = some u) := Lib.hid fun w' hb' =>
    EvA.from fun i hi => ⟨(hb'.cell (p := ⟨b, off + i * 2, none⟩) hb).trans (hc i hi).1, (hb'.cell (p := ⟨b, off + i * 2 + 1, none⟩) hb).trans (hc i hi).2⟩
  have heq := eql_slice_nil w ⟨b, off, none⟩ N cap
  clear hc hN hl2
  go_enter Tryd.func32, Tryd.ntmps32
  have hW1 : Below w.heap.size w (w.alloc (.cells #[] 34)) := (Below.refl _ _).alloc (Nat.le_refl _) _
  have HW1 := Lib.hid hW1
  have hown0 : (w.alloc (.cells #[] 34)).ownsRow w.heap.size 34 2 (.slice (some ⟨w.heap.size, 0, none⟩) 0 0) 0 [] :=
    ⟨rfl, .inr ⟨w.heap.size, 0, #[], rfl, Nat.le_refl _, heap_alloc_new _ _, Nat.le_refl _, by unfold maxLen; omega, rfl, rfl⟩⟩
  have HOwn := Lib.hid hown0
  have hle1 : w.heap.size ≤ (w.alloc (.cells #[] 34)).heap.size := hW1.size
  have HLe := Lib.hid hle1
  have HNew := Lib.hid (HF.out _ hW1)
  have hres : Hid (∀ v' w', w'.ownsRow w.heap.size 34 2 v' (0 + N) ([] ++ flat2 l) → (w.alloc (.cells #[] 34)).grownBy w' (Value.slice (some ⟨w.heap.size, 0, none⟩) 0 0).ownBlock → ∃ g c, v' = .slice (some ⟨g, 0, none⟩) N c ∧ EtOwn w' w.heap.size (some ⟨g, 0, none⟩) c l ∧ Below w.heap.size w w') := Lib.hid fun v' w' o gr => by
    rw [List.nil_append] at o
    obtain ⟨a, c, rfl, hE⟩ := EtOwn.of o
    obtain ⟨g, rfl, _⟩ := hE.open (by rw [← HN.out]; exact h0)
    exact ⟨g, c, by rw [HN.out], hE, HW1.out.trans (grown_below gr HLe.out (fun k hk => by simp [Value.ownBlock] at hk; omega))⟩
  clear hW1 hown0 hle1
  go_wp2_with (at_builtin; refine wpList_append_own _ rfl (.tmp 5) (.tmp 6) 22 rfl w.heap.size 34 i0 (.agg #[.int .i64 0, .int .i64 0]) 2 16 Tryd.underlying22 hi0 hz0 hz1 hz2 rfl (by decide) (.slice (some ⟨w.heap.size, 0, none⟩) 0 0) 0 [] rfl HOwn.out ⟨b, off, none⟩ N cap (flat2 l) rfl HL.out HNew.out (one_cells2 _) (by unfold maxLen; omega) (by omega) HLe.out ?_; intro v2 w2 o2 g2 _; have HR := Lib.hid (hres.out v2 w2 o2 g2); clear o2 g2)
  go_ret
  obtain ⟨g, c, e1, e2, e3⟩ := HR.out
  exact ⟨g, c, by rw [e1]; rfl, e2, e3⟩
end Go.Proofs.YtienepcknafddaaDoor
end

section
set_option linter.unusedVariables false
set_option linter.unusedSimpArgs false
namespace Go.Proofs.YtienepcknafddaaDoor
open Go Go.RowKit SimPlain HeapPlain SymPlain

theorem Sort_bad (l : List Ev) (a : Option Addr) (cap : Nat) (w : World) (hx : EvA w a l) (hl : l.length ≤ 9223372036854775807) (hbad : chkI l ≠ 0) :
    Calls Tryd.prog 15 #[.slice a l.length cap] w fun e w' => e = .returned (.tuple #[.slice none 0 0, errV 36 (chkI l)]) ∧ Below w.heap.size w w' := by
  have hC := CheckI_any l a cap w hx hl
  rw [errV_bad hbad] at hC ⊢
  have HC := Lib.hid hC
  obtain ⟨N, hN⟩ : ∃ N, N = l.length := ⟨_, rfl⟩
  rw [← hN] at HC ⊢
  clear hC hx hl hbad hN
  go_enter Tryd.func15, Tryd.ntmps15
  go_wp2_with fail
  refine HC.out.mono ?_
  rintro e w1 ⟨rfl, hb⟩
  have HB := Lib.hid hb
  clear hb
  go_wp2
  refine bodyPost_ret (results_tmp2 rfl _ _ _) rfl ?_
  exact ⟨rfl, HB.out⟩
set_option maxRecDepth 100000 in
theorem Sort_ok (l : List Ev) (a : Option Addr) (cap : Nat) (w : World) (hx : EvA w a l) (hok : chkI l = 0) (h0 : 0 < l.length) (hbef : l.Pairwise Bef) :
    Calls Tryd.prog 15 #[.slice a l.length cap] w fun e w' => ∃ g c W, e = .returned (.tuple #[.slice (some ⟨g, 0, none⟩) W.length c, .nilIface]) ∧ W.Perm l ∧ W.Pairwise Lt ∧ EtOwn w' w.heap.size (some ⟨g, 0, none⟩) c W ∧ Below w.heap.size w w' := by
  have h60 := (chkI_fine hok).1
  have hC := CheckI_any l a cap w hx (by omega)
  rw [hok, errV_ok] at hC
  have HC := Lib.hid hC
  obtain ⟨b, off, rfl, hbl, hc⟩ := hx.open h0
  obtain ⟨N, hN⟩ : ∃ N, N = l.length := ⟨_, rfl⟩
  have hCl : ∀ w1, Below w.heap.size w w1 → Calls Tryd.prog 32 #[.slice (some ⟨b, off, none⟩) N cap] w1
      fun e w' => ∃ g c, e = .returned (.slice (some ⟨g, 0, none⟩) N c) ∧ EtOwn w' w1.heap.size (some ⟨g, 0, none⟩) c l ∧ Below w1.heap.size w1 w' := fun w1 hb1 =>
    clone_any l b off cap N w1 hN (by omega) (by omega) (Nat.lt_of_lt_of_le hbl hb1.size) fun i hi =>
      ⟨(hb1.cell (p := ⟨b, off + i * 2, none⟩) hbl).trans (hc i hi).1, (hb1.cell (p := ⟨b, off + i * 2 + 1, none⟩) hbl).trans (hc i hi).2⟩
  have HCl := Lib.hid hCl
  have hSo := fun (g c B : Nat) (w2 : World) (hr : EtOwn w2 B (some ⟨g, 0, none⟩) c l) => sortStable_any l hbef N hN (by omega) (by omega) g c B w2 hr
  unfold fvK at hSo
  have HSo := Lib.hid hSo
  have HN := Lib.hid hN
  rw [← hN] at HC ⊢
  clear hC hCl hSo hc hx hok h0 hbef hN h60 hbl
  go_enter Tryd.func15, Tryd.ntmps15
  go_wp2_with fail
  refine HC.out.mono ?_
  rintro e w1 ⟨rfl, hb1⟩
  have HB1 := Lib.hid hb1
  clear hb1
  go_wp2_with fail
  refine (HCl.out w1 HB1.out).mono ?_
  rintro e w2 ⟨g, c, rfl, hE, hb2⟩
  have HE := Lib.hid hE
  have HB2 := Lib.hid hb2
  clear hE hb2
  go_wp2_with fail
  refine (HSo.out g c w1.heap.size w2 HE.out).mono ?_
  rintro e w3 ⟨W, rfl, hp, hs, hr, ho⟩
  have hW : W.length = N := by rw [hp.length_eq]; exact HN.out.symm
  have hgl := (HE.out.lt g rfl).1
  have h2 := HB1.out.size
  have hfin : Hid (∃ g' c' W', (Value.tuple #[.slice (some ⟨g, 0, none⟩) N c, .nilIface]) = .tuple #[.slice (some ⟨g', 0, none⟩) W'.length c', .nilIface] ∧ W'.Perm l ∧ W'.Pairwise Lt ∧ EtOwn w3 w.heap.size (some ⟨g', 0, none⟩) c' W' ∧ Below w.heap.size w w3) := Lib.hid
    ⟨g, c, W, by rw [hW], hp, hs, hr.mono h2, (HB1.out.trans (HB2.out.mono h2)).trans (ho.below (by have := HB2.out.size; omega) (fun k e => by omega))⟩
  clear hp hs hr ho hW hgl h2
  go_wp2
  refine bodyPost_ret (results_tmp2 rfl _ _ _) rfl ?_
  obtain ⟨g', c', W', e1, r⟩ := hfin.out
  exact ⟨g', c', W', by rw [← e1]; rfl, r⟩
end Go.Proofs.YtienepcknafddaaDoor
end

section
set_option linter.unusedVariables false
set_option linter.unusedSimpArgs false
namespace Go.Proofs.YtienepcknafddaaDoor
open Go Go.RowKit SimPlain HeapPlain SymPlain

def Rises (l : List Ev) : Prop := ∀ i, i + 1 < l.length → (l.getD i e0).t ≤ (l.getD (i + 1) e0).t
set_option maxRecDepth 100000 in
set_option maxHeartbeats 1000000 in
theorem isSorted_any (l : List Ev) (a : Option Addr) (cap : Nat) (w : World) (hx : EvA w a l) (h60 : l.length ≤ 60) (h0 : 0 < l.length) (hs : Rises l) :
    Calls Tryd.prog 58 #[.slice a l.length cap, fvK] w fun e w' => e = .returned (.bool true) ∧ Only w w' (fun _ => False) := by
  obtain ⟨b, off, rfl, hbl, hc⟩ := hx.open h0
  obtain ⟨N, hN⟩ : ∃ N, N = l.length := ⟨_, rfl⟩
  have HC := Lib.hid hc
  have HS := Lib.hid hs
  have HN := Lib.hid hN
  have HK := Lib.hid (fun x y W => byKey_any x y W)
  rw [← hN] at h60 h0 ⊢
  clear hx hc hs hN
  unfold fvK
  go_enter Tryd.func58, Tryd.ntmps58
  go_wp2
  go_loopw [5] (fun iv wx => ∃ i : Nat, iv = .int .i64 i ∧ i < N ∧ Only w wx (fun _ => False)) (fun iv _ => (intOf iv).toNat)
  case atStart =>
    exact ⟨N - 1, by go_num, by omega, Only.refl w _⟩
  case round =>
    obtain ⟨i, rfl, hi, hO⟩ := hrel
    have HO := Lib.hid hO
    clear hO
    by_cases hi0 : i = 0
    · subst hi0
      go_wp2
      go_ret
      exact ⟨rfl, HO.out⟩
    · obtain ⟨k, rfl⟩ : ∃ k, i = k + 1 := ⟨i - 1, by omega⟩
      obtain ⟨c1, c2⟩ := HC.out (k + 1) (by rw [← HN.out]; exact hi)
      obtain ⟨d1, d2⟩ := HC.out k (by rw [← HN.out]; omega)
      have hle := HS.out k (by rw [← HN.out]; exact hi)
      have hO' := HO.out
      have x0 := (hO'.cell (a := ⟨b, off + (k + 1) * 2, none⟩) hbl (fun c => c)).trans c1
      have x1 := (hO'.cell (a := ⟨b, off + (k + 1) * 2 + 1, none⟩) hbl (fun c => c)).trans c2
      have y0 := (hO'.cell (a := ⟨b, off + k * 2, none⟩) hbl (fun c => c)).trans d1
      have y1 := (hO'.cell (a := ⟨b, off + k * 2 + 1, none⟩) hbl (fun c => c)).trans d2
      have z1 : (0 : Int) ≤ (k : Int) + 1 := by omega
      have z2 : ((k : Int) + 1).toNat = k + 1 := by omega
      have z3 : (k : Int) + 1 - 1 = (k : Int) := by omega
      have z4 : (k : Int) + 1 < (N : Int) := by omega
      have z6 : (0 : Int) < (k : Int) + 1 := by omega
      have wk : IntKind.i64.wrap (k : Int) = (k : Int) := wrap_small (by omega)
      have z5 : (k : Int) < (N : Int) := by omega
      obtain ⟨z, hz⟩ : ∃ z, z = cmpZ (l.getD (k + 1) e0).t (l.getD k e0).t := ⟨_, rfl⟩
      have hz0 : ¬ z < 0 := by
        rw [hz]
        have := HS.out k (by rw [← HN.out]; exact hi)
        unfold cmpZ
        split
        · omega
        · split <;> omega
      have hCz := fun W => HK.out (l.getD (k + 1) e0) (l.getD k e0) W
      unfold itV at hCz
      rw [← hz] at hCz
      have HCz := Lib.hid hCz
      clear hCz c1 c2 d1 d2 hO' hle hz
      go_upto_region 4 with fail
      go_still_tail 10, (by kernel_rfl)
      change wpList _ _ _ _ _ _
      go_wp2_with fail
      refine (HCz.out _).mono ?_
      rintro e w4 ⟨rfl, o4⟩
      have HO4 := Lib.hid ((HO.out.drewN 1).trans o4 (fun _ _ c => c.elim))
      clear o4
      go_wp2
      go_roundw
      case rel => exact ⟨k, by go_num, by omega, HO4.out⟩
      case measure => simp only [intOf]; omega
/-- order.Sorted of fine items whose keys do not fall -/
theorem sorted_yes (l : List Ev) (a : Option Addr) (cap : Nat) (w : World) (hx : EvA w a l) (hok : chkI l = 0) (h0 : 0 < l.length) (hs : Rises l) :
    Calls Tryd.prog 50 #[.slice a l.length cap] w fun e w' => e = .returned (.tuple #[.bool true, .nilIface]) ∧ Below w.heap.size w w' := by
  have h60 := (chkI_fine hok).1
  have hC := CheckI_any l a cap w hx (by omega)
  rw [hok, errV_ok] at hC
  have HC := Lib.hid hC
  have hI := fun (w1 : World) (hb : Below w.heap.size w w1) => isSorted_any l a cap w1 (hx.below hb) h60 h0 hs
  unfold fvK at hI
  have HI := Lib.hid hI
  obtain ⟨N, hN⟩ : ∃ N, N = l.length := ⟨_, rfl⟩
  rw [← hN] at HC HI ⊢
  clear hC hI hx hok h0 hs hN h60
  go_enter Tryd.func50, Tryd.ntmps50
  go_wp2_with fail
  refine HC.out.mono ?_
  rintro e w1 ⟨rfl, hb1⟩
  have HB1 := Lib.hid hb1
  clear hb1
  go_wp2_with fail
  refine (HI.out w1 HB1.out).mono ?_
  rintro e w2 ⟨rfl, ho⟩
  have HB2 := Lib.hid (HB1.out.trans ((ho.below (Nat.le_refl _) (fun k c => c.elim)).mono HB1.out.size))
  clear ho
  go_wp2
  refine bodyPost_ret (results_tmp2 rfl _ _ _) rfl ?_
  exact ⟨rfl, HB2.out⟩
theorem isSorted_nil (a : Option Addr) (cap : Nat) (w : World) :
    Calls Tryd.prog 58 #[.slice a 0 cap, fvK] w fun e w' => e = .returned (.bool true) ∧ Only w w' (fun _ => False) := by
  unfold fvK
  go_enter Tryd.func58, Tryd.ntmps58
  go_wp2
  refine wp_loop_rounds 1 ?_
  rw [rounds_succ]
  go_wp2
  go_ret
  exact ⟨rfl, Only.refl _ _⟩
theorem sorted_nil (a : Option Addr) (cap : Nat) (w : World) :
    Calls Tryd.prog 50 #[.slice a 0 cap] w fun e w' => e = .returned (.tuple #[.bool true, .nilIface]) ∧ Below w.heap.size w w' := by
  have hC := CheckI_any [] a cap w (.inl rfl) (by simp)
  rw [show chkI [] = 0 from rfl, errV_ok] at hC
  have HC := Lib.hid hC
  have hI := fun (w1 : World) => isSorted_nil a cap w1
  unfold fvK at hI
  have HI := Lib.hid hI
  clear hC hI
  go_enter Tryd.func50, Tryd.ntmps50
  go_wp2_with fail
  refine HC.out.mono ?_
  rintro e w1 ⟨rfl, hb1⟩
  have HB1 := Lib.hid hb1
  clear hb1
  go_wp2_with fail
  refine (HI.out w1).mono ?_
  rintro e w2 ⟨rfl, ho⟩
  have HB2 := Lib.hid (HB1.out.trans ((ho.below (Nat.le_refl _) (fun k c => c.elim)).mono HB1.out.size))
  clear ho
  go_wp2
  refine bodyPost_ret (results_tmp2 rfl _ _ _) rfl ?_
  exact ⟨rfl, HB2.out⟩
end Go.Proofs.YtienepcknafddaaDoor
end

section
set_option linter.unusedVariables false
set_option linter.unusedSimpArgs false
namespace Go.Proofs.YtienepcknafddaaDoor
open Go Go.RowKit SimPlain HeapPlain SymPlain

theorem alloc_here (w : World) (o : Obj) : (w.alloc o).heap[w.heap.size]? = some o := by
  show (w.heap.push o)[w.heap.size]? = some o
  simp
/-- a row of cells stands there -/
def CellsAt (w : World) (g : Nat) : Prop := ∃ c t fr, w.heap[g]? = some (.cells c t fr)
theorem clone_none (w : World) : Calls Tryd.prog 32 #[.slice none 0 0] w fun e w' => e = .returned (.slice none 0 0) ∧ w = w' := by
  have heq : (binOp .eql 22 (.slice none 0 0) (.slice none 0 0)).run Tryd.prog w = .ok (.bool true) w := by
    simp only [binOp]
    simp [run_equal_slice_nil w 22 34 none 0 0 Tryd.underlying22]
  go_enter Tryd.func32, Tryd.ntmps32
  go_wp2
  go_ret
  exact ⟨rfl, rfl⟩
theorem clone_empty (b off cap : Nat) (w : World) : Calls Tryd.prog 32 #[.slice (some ⟨b, off, none⟩) 0 cap] w fun e w' => (∃ g, e = .returned (.slice (some ⟨g, 0, none⟩) 0 0) ∧ CellsAt w' g) ∧ Below w.heap.size w w' := by
  obtain ⟨i0, hi0, hz0, hz1, hz2⟩ := info_parts etInfo
  have heq := eql_slice_nil w ⟨b, off, none⟩ 0 cap
  go_enter Tryd.func32, Tryd.ntmps32
  go_wp2
  go_ret
  exact ⟨⟨w.heap.size, rfl, _, _, _, alloc_here _ _⟩, (Below.refl _ _).alloc (Nat.le_refl _) _⟩
theorem Sort_none (w : World) : Calls Tryd.prog 15 #[.slice none 0 0] w fun e w' => e = .returned (.tuple #[.slice none 0 0, .nilIface]) ∧ Below w.heap.size w w' := by
  have hC := CheckI_any [] none 0 w (.inl rfl) (by simp)
  rw [show chkI [] = 0 from rfl, errV_ok] at hC
  have HC := Lib.hid hC
  have HCl := Lib.hid (fun w1 => clone_none w1)
  have hSo := fun (w2 : World) => sortStable_none none 0 w2
  unfold fvK at hSo
  have HSo := Lib.hid hSo
  clear hC hSo
  go_enter Tryd.func15, Tryd.ntmps15
  go_wp2_with fail
  refine HC.out.mono ?_
  rintro e w1 ⟨rfl, hb1⟩
  have HB1 := Lib.hid hb1
  clear hb1
  go_wp2_with fail
  refine (HCl.out w1).mono ?_
  rintro e w2 ⟨rfl, rfl⟩
  go_wp2_with fail
  refine (HSo.out w1).mono ?_
  rintro e w3 ⟨rfl, rfl⟩
  go_wp2
  refine bodyPost_ret (results_tmp2 rfl _ _ _) rfl ?_
  exact ⟨rfl, HB1.out⟩
theorem Sort_empty (b off cap : Nat) (w : World) : Calls Tryd.prog 15 #[.slice (some ⟨b, off, none⟩) 0 cap] w fun e w' => (∃ g, e = .returned (.tuple #[.slice (some ⟨g, 0, none⟩) 0 0, .nilIface]) ∧ CellsAt w' g) ∧ Below w.heap.size w w' := by
  have hC := CheckI_any [] (some ⟨b, off, none⟩) cap w (.inl rfl) (by simp)
  rw [show chkI [] = 0 from rfl, errV_ok] at hC
  have HC := Lib.hid hC
  have HCl := Lib.hid (fun w1 => clone_empty b off cap w1)
  have hSo := fun (a : Option Addr) (w2 : World) => sortStable_none a 0 w2
  unfold fvK at hSo
  have HSo := Lib.hid hSo
  clear hC hSo
  go_enter Tryd.func15, Tryd.ntmps15
  go_wp2_with fail
  refine HC.out.mono ?_
  rintro e w1 ⟨rfl, hb1⟩
  have HB1 := Lib.hid hb1
  clear hb1
  go_wp2_with fail
  refine (HCl.out w1).mono ?_
  rintro e w2 ⟨⟨g, rfl, hc2⟩, hb2⟩
  have HC2 := Lib.hid hc2
  clear hc2
  have HB2 := Lib.hid (HB1.out.trans (hb2.mono HB1.out.size))
  clear hb2
  go_wp2_with fail
  refine (HSo.out _ w2).mono ?_
  rintro e w3 ⟨rfl, rfl⟩
  go_wp2
  refine bodyPost_ret (results_tmp2 rfl _ _ _) rfl ?_
  exact ⟨⟨g, rfl, HC2.out⟩, HB2.out⟩
end Go.Proofs.YtienepcknafddaaDoor
end
