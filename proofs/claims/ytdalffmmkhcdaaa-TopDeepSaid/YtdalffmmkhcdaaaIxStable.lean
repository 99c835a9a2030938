/- WALKS: slices.stableCmpFunc, SortStableFunc of places by a closure, up to 60. -/
import Derived.Test.YtdalffmmkhcdaaaIxAny
import Derived.Test.YtdalffmmkhcdaaaSymSeg
set_option linter.unusedVariables false
set_option linter.unusedSimpArgs false
namespace Go.Proofs.Ytdalffmmkhcdaaa
open Go Go.RowKit SimPlain HeapPlain SymPlain

/-- the first list turned in one stretch -/
def Turned (l0 l : List Ev) (a b : Nat) (g cap : Nat) (B : IxE) (w : World) (e : Ending) (w' : World) : Prop :=
  e = .returned (.tuple #[]) ∧ ∃ W, W.length = b - a ∧ Seg Lt l0 (l.take a ++ (W ++ l.drop b)) a b ∧ CutAt (l.take a ++ (W ++ l.drop b)) g cap B w w'
theorem ins_at (l0 l : List Ev) (hl : l.length = l0.length) (hbef : l0.Pairwise Bef) (N a b : Nat) (hN : N = l.length) (h100 : N ≤ 100) (hab : a ≤ b) (hbN : b ≤ N) (h0 : 0 < N) (hraw : l.drop a = l0.drop a) (g cap : Nat) (B : IxE) (w : World) (hrow : IxOwn w B (some ⟨g, 0, none⟩) cap l) :
    Calls Try.prog 32 #[.slice (some ⟨g, 0, none⟩) N cap, .int .i64 a, .int .i64 b, (fvK B)] w (Turned l0 l a b g cap B w) := by
  obtain ⟨c1, c2, c3⟩ := cut3 l hab (by omega)
  have hU : ((l.drop a).take (b - a)).Pairwise Bef := by
    rw [hraw]; exact (hbef.sublist (List.drop_sublist _ _)).sublist (List.take_sublist _ _)
  have hgw := lt_of_block (hrow.block (by omega)).choose_spec
  refine (insertion_any (l.take a) ((l.drop a).take (b - a)) (l.drop b) g cap B w N a b (by rw [← c1]; exact hN) c2.symm (by rw [c2, c3]; omega) hU h100 hgw (by rw [← c1]; exact hrow)).mono ?_
  rintro e w' ⟨W, rfl, hp, hs, hr, ho⟩
  refine ⟨rfl, W, by rw [hp.length_eq, c3], Seg.new hab (by omega) (by rw [← hraw]; exact hp) hs hl, hr, ho⟩
theorem sym_at (l0 l : List Ev) (hl : l.length = l0.length) (hbef : l0.Pairwise Bef) (N a m b : Nat) (hN : N = l.length) (h100 : N ≤ 100) (ham : a < m) (hmb : m < b) (hbN : b ≤ N) (hU : Seg Lt l0 l a m) (hV : Seg Lt l0 l m b) (g cap : Nat) (B : IxE) (w : World) (hrow : IxOwn w B (some ⟨g, 0, none⟩) cap l) :
    Calls Try.prog 33 #[.slice (some ⟨g, 0, none⟩) N cap, .int .i64 a, .int .i64 m, .int .i64 b, (fvK B)] w (Turned l0 l a b g cap B w) := by
  obtain ⟨c1, c2, c3⟩ := cut3 l (show a ≤ b by omega) (by omega)
  have e2 := stretch_two l (show a ≤ m by omega) (show m ≤ b by omega)
  have lu : ((l.drop a).take (m - a)).length = m - a := by rw [List.length_take, List.length_drop]; omega
  have lv : ((l.drop m).take (b - m)).length = b - m := by rw [List.length_take, List.length_drop]; omega
  have c1' : l = l.take a ++ ((l.drop a).take (m - a) ++ ((l.drop m).take (b - m) ++ l.drop b)) := by
    rw [e2, List.append_assoc] at c1; exact c1
  refine (sym_any (b - a) (l.take a) ((l.drop a).take (m - a)) ((l.drop m).take (b - m)) (l.drop b) g cap B w N a m b (by rw [← c1']; exact hN) c2.symm (by rw [lu]; omega) (by rw [lv]; omega) (by omega) (by omega) hU.sorted hV.sorted
    (seg_bef hbef (by omega) (by omega) hU hV) h100 (by rw [← c1']; exact hrow) (by omega)).mono ?_
  rintro e w' ⟨W, rfl, hp, hs, hr, ho⟩
  refine ⟨rfl, W, by rw [hp.length_eq, ← e2, c3], Seg.new (by omega) (by omega) (hp.trans ?_) hs hl, hr, ho⟩
  rw [stretch_two l0 (show a ≤ m by omega) (show m ≤ b by omega)]
  exact hU.perm.append hV.perm
/-- what the first loop keeps: blocks of twenty -/
structure One (l0 l : List Ev) (a : Nat) : Prop where
  at_ : a = 0 ∨ a = 20 ∨ a = 40 ∨ a = 60
  len : l.length = l0.length
  s0 : 20 ≤ a → Seg Lt l0 l 0 20
  s1 : 40 ≤ a → Seg Lt l0 l 20 40
  s2 : 60 ≤ a → Seg Lt l0 l 40 60
  raw : l.drop a = l0.drop a
theorem One.step {l0 l W : List Ev} {a : Nat} (h : One l0 l a) (hb : a + 20 ≤ l.length) (h60 : l.length ≤ 60) (hW : W.length = a + 20 - a) (hs : Seg Lt l0 (l.take a ++ (W ++ l.drop (a + 20))) a (a + 20)) : One l0 (l.take a ++ (W ++ l.drop (a + 20))) (a + 20) := by
  have hlen := turned_length (a := a) (b := a + 20) (by omega) hb hW
  have old : ∀ s e, e ≤ a → Seg Lt l0 l s e → Seg Lt l0 (l.take a ++ (W ++ l.drop (a + 20))) s e := fun s e he k => k.old (by omega) hb hW (.inl he)
  have ha := h.at_
  refine ⟨by omega, hlen.trans h.len, fun c => ?_, fun c => ?_, fun c => ?_, ?_⟩
  · rcases Nat.lt_or_ge a 20 with d | d
    · obtain rfl : a = 0 := by omega
      exact hs
    · exact old _ _ d (h.s0 d)
  · rcases Nat.lt_or_ge a 40 with d | d
    · obtain rfl : a = 20 := by omega
      exact hs
    · exact old _ _ d (h.s1 d)
  · rcases Nat.lt_or_ge a 60 with d | d
    · obtain rfl : a = 40 := by omega
      exact hs
    · exact old _ _ d (h.s2 d)
  · have e0 : l.drop (a + 20) = l0.drop (a + 20) := by
      have := congrArg (fun t => t.drop 20) h.raw
      simpa [List.drop_drop] using this
    have c2 : (l.take a).length = a := by rw [List.length_take]; omega
    rw [← List.append_assoc, List.drop_append_of_le_length (by rw [List.length_append, c2, hW]; omega), List.drop_of_length_le (by rw [List.length_append, c2, hW]; omega), List.nil_append, e0]
/-- what the second loop keeps -/
def Two20 (l0 l : List Ev) (N t : Nat) : Prop :=
  (t = 20 ∧ Seg Lt l0 l 0 (min 20 N) ∧ Seg Lt l0 l 20 (min 40 N) ∧ Seg Lt l0 l 40 N) ∨ (t = 40 ∧ 20 < N ∧ Seg Lt l0 l 0 (min 40 N) ∧ Seg Lt l0 l 40 N) ∨ (t = 80 ∧ 40 < N ∧ Seg Lt l0 l 0 N)
theorem One.last {l0 l W : List Ev} {a N : Nat} (h : One l0 l a) (hN : N = l.length) (haN : a ≤ N) (hN2 : N < a + 20) (h60 : N ≤ 60) (hW : W.length = N - a) (hs : Seg Lt l0 (l.take a ++ (W ++ l.drop N)) a N) : Two20 l0 (l.take a ++ (W ++ l.drop N)) N 20 := by
  have hlen := (turned_length (a := a) (b := N) haN (by omega) hW).trans h.len
  have hlen' : (l.take a ++ (W ++ l.drop N)).length = N := by rw [hlen, ← h.len]; exact hN.symm
  have old : ∀ s e, e ≤ a → Seg Lt l0 l s e → Seg Lt l0 (l.take a ++ (W ++ l.drop N)) s e := fun s e he k => k.old haN (by omega) hW (.inl he)
  have none : ∀ s e, N ≤ s → Seg Lt l0 (l.take a ++ (W ++ l.drop N)) s e := fun s e hse => Seg.none (.inr (by omega)) hlen
  refine .inl ⟨rfl, ?_, ?_, ?_⟩
  · rcases h.at_ with c | c | c | c
    · subst c; rw [Nat.min_eq_right (by omega)]; exact hs
    all_goals rw [Nat.min_eq_left (by omega)]; exact old _ _ (by omega) (h.s0 (by omega))
  · rcases h.at_ with c | c | c | c
    · exact none _ _ (by omega)
    · subst c; rw [Nat.min_eq_right (by omega)]; exact hs
    all_goals rw [Nat.min_eq_left (by omega)]; exact old _ _ (by omega) (h.s1 (by omega))
  · rcases h.at_ with c | c | c | c
    · exact none _ _ (by omega)
    · exact none _ _ (by omega)
    · subst c; exact hs
    · obtain rfl : N = 60 := by omega
      exact old _ _ (by omega) (h.s2 (by omega))
theorem Two20.done {l0 l : List Ev} {N t : Nat} (h : Two20 l0 l N t) (ht : N ≤ t) (h60 : N ≤ 60) (hN : N = l.length) (hl : l.length = l0.length) : l.Perm l0 ∧ l.Pairwise Lt := by
  have key : Seg Lt l0 l 0 N := by
    rcases h with ⟨c, s, _, _⟩ | ⟨c, _, s, _⟩ | ⟨c, _, s⟩
    · rw [Nat.min_eq_right (by omega)] at s; exact s
    · rw [Nat.min_eq_right (by omega)] at s; exact s
    · exact s
  subst hN
  exact key.full hl
def StableRes (l0 : List Ev) (g cap : Nat) (B : IxE) (w : World) (e : Ending) (w' : World) : Prop := ∃ W, e = .returned (.tuple #[]) ∧ W.Perm l0 ∧ W.Pairwise Lt ∧ CutAt W g cap B w w'
def Mid20 (l0 l : List Ev) (N a b : Nat) : Prop :=
  (a = 0 ∧ b = 40 ∧ Seg Lt l0 l 0 20 ∧ Seg Lt l0 l 20 (min 40 N) ∧ Seg Lt l0 l 40 N) ∨ (a = 40 ∧ b = 80 ∧ 40 ≤ N ∧ Seg Lt l0 l 0 40 ∧ Seg Lt l0 l 40 N)
set_option maxRecDepth 100000 in
set_option maxHeartbeats 4000000 in
theorem stable_any (l0 : List Ev) (hbef : l0.Pairwise Bef) (N : Nat) (hN : N = l0.length) (h60 : N ≤ 60) (h0 : 0 < N) (g cap : Nat) (B : IxE) (w : World) (hrow : IxOwn w B (some ⟨g, 0, none⟩) cap l0) :
    Calls Try.prog 28 #[.slice (some ⟨g, 0, none⟩) N cap, .int .i64 N, (fvK B)] w (StableRes l0 g cap B w) := by
  have HBf := Lib.hid hbef
  have HN := Lib.hid hN
  have HRow := Lib.hid hrow
  have HI := Lib.hid ins_at
  have HS := Lib.hid sym_at
  clear hbef hN hrow
  unfold fvK at *
  go_enter Try.func28, Try.ntmps28
  go_wp2
  go_loopw [7, 8] (fun av bv wr => ∃ (a b : Nat) (l : List Ev), av = .int .i64 a ∧ bv = .int .i64 b ∧ b = a + 20 ∧ a ≤ N ∧ One l0 l a ∧ CutAt l g cap B w wr) (fun av _ _ => 60 - (intOf av).toNat)
  case atStart => exact ⟨0, 20, l0, rfl, rfl, rfl, Nat.zero_le _, ⟨.inl rfl, rfl, fun c => absurd c (by decide), fun c => absurd c (by decide), fun c => absurd c (by decide), rfl⟩, HRow.out, Only.refl _ _⟩
  case round =>
    obtain ⟨a, b, l, rfl, rfl, hb, haN, hO, hC⟩ := hrel
    have hNl : N = l.length := by rw [hO.len]; exact HN.out
    have HO := Lib.hid hO
    have HC := Lib.hid hC
    have Hb := Lib.hid hb
    have HNl := Lib.hid hNl
    rcases Nat.lt_or_ge N b with hlt | hle
    · have h1 : (N : Int) < (b : Int) := by omega
      have h2 : decide ((b : Int) ≤ (N : Int)) = false := decide_eq_false (by omega)
      have h3 : decide (b ≤ N) = false := decide_eq_false (by omega)
      have hI := HI.out l0 l hO.len HBf.out N a N hNl (by omega) haN (Nat.le_refl _) h0 hO.raw g cap B wr hC.1
      have hI' := Lib.hid hI
      have Hlt := Lib.hid hlt
      have HaN := Lib.hid haN
      clear hI hlt hO hC hNl hb
      go_wp2_with fail
      refine hI'.out.mono ?_
      rintro e w2 ⟨rfl, W, hW, hs, hc⟩
      have hT := HO.out.last HNl.out HaN.out (by have := Hb.out; have := Hlt.out; omega) h60 hW hs
      have hlen := (turned_length (a := a) (b := N) HaN.out (by have := HNl.out; omega) hW).trans HO.out.len
      generalize l.take a ++ (W ++ l.drop N) = l2 at hs hc hT hlen
      have HT := Lib.hid hT
      have HL := Lib.hid hlen
      have HC2 : Hid (CutAt l2 g cap B w w2) := Lib.hid ⟨hc.1, HC.out.2.trans hc.2 (fun _ _ c => c)⟩
      clear hT hlen hc hs hW h1 h2 h3
      go_wp2
      go_loopw [6] (fun tv wr => ∃ (t : Nat) (l : List Ev), tv = .int .i64 t ∧ Two20 l0 l N t ∧ l.length = l0.length ∧ CutAt l g cap B w wr) (fun tv _ => 80 - (intOf tv).toNat)
      case atStart => exact ⟨20, l2, rfl, HT.out, HL.out, HC2.out⟩
      case round =>
        obtain ⟨t, l3, rfl, hT3, hL3, hC3⟩ := hrel
        have HT3 := Lib.hid hT3
        have HL3 := Lib.hid hL3
        have HC3 := Lib.hid hC3
        have HN3 : Hid (N = l3.length) := Lib.hid (by rw [hL3]; exact HN.out)
        clear hL3 hC3
        rcases Nat.lt_or_ge t N with ht | ht
        · rcases hT3 with ⟨rfl, s0, s1, s2⟩ | ⟨rfl, _, s0, s1⟩ | ⟨rfl, _, _⟩
          · rw [show ((20 : Nat) : Int) = 20 from rfl]
            have ht1 : (20 : Int) < (N : Int) := by omega
            have hM : Mid20 l0 l3 N 0 40 := .inl ⟨rfl, rfl, by rw [Nat.min_eq_left (by omega)] at s0; exact s0, s1, s2⟩
            have HM := Lib.hid hM
            clear s0 s1 s2 hM
            go_wp2
            go_loopw [7, 8] (fun av bv wk => ∃ (a b : Nat) (l : List Ev), av = .int .i64 a ∧ bv = .int .i64 b ∧ Mid20 l0 l N a b ∧ l.length = l0.length ∧ CutAt l g cap B w wk) (fun av _ _ => 100 - (intOf av).toNat)
            case atStart => exact ⟨0, 40, l3, rfl, rfl, HM.out, HL3.out, HC3.out⟩
            case round =>
              obtain ⟨a4, b4, l4, rfl, rfl, hM4, hL4, hC4⟩ := hrel
              have HL4 := Lib.hid hL4
              have HC4 := Lib.hid hC4
              have hN4 : N = l4.length := by rw [hL4]; exact HN.out
              have HN4 := Lib.hid hN4
              rcases hM4 with ⟨rfl, rfl, s0, s1, s2⟩ | ⟨rfl, rfl, h40, s0, s1⟩
              · rw [show ((0 : Nat) : Int) = 0 from rfl, show ((40 : Nat) : Int) = 40 from rfl]
                rcases Nat.lt_or_ge N 40 with hN40 | hN40
                · have g1 : decide ((40 : Int) ≤ (N : Int)) = false := decide_eq_false (by omega)
                  have g2 : decide (40 ≤ N) = false := decide_eq_false (by omega)
                  rw [Nat.min_eq_right (by omega)] at s1
                  have hS := HS.out l0 l4 hL4 HBf.out N 0 20 N hN4 (by omega) (by omega) (by omega) (Nat.le_refl _) s0 s1 g cap B wr hC4.1
                  have HSy := Lib.hid hS
                  have H40 := Lib.hid hN40
                  clear hS s0 s1 s2 hL4 hC4 hN4 hN40
                  go_wp2_with fail
                  refine HSy.out.mono ?_
                  rintro e w5 ⟨rfl, W5, hW5, hs5, hc5⟩
                  have hlen := (turned_length (a := 0) (b := N) (Nat.zero_le _) (by have := HN4.out; omega) hW5).trans HL4.out
                  generalize l4.take 0 ++ (W5 ++ l4.drop N) = l5 at hs5 hc5 hlen
                  have HT5 : Hid (Two20 l0 l5 N 40) := Lib.hid (.inr (.inl ⟨rfl, by omega, by rw [Nat.min_eq_right (by have := H40.out; omega)]; exact hs5, Seg.none (.inl (by have := H40.out; omega)) hlen⟩))
                  have HL5 := Lib.hid hlen
                  have HC5 : Hid (CutAt l5 g cap B w w5) := Lib.hid ⟨hc5.1, HC4.out.2.trans hc5.2 (fun _ _ c => c)⟩
                  clear hW5 hs5 hc5 hlen
                  go_wp2
                  go_roundw
                  case rel => exact ⟨40, l5, by first | rfl | go_num, HT5.out, HL5.out, HC5.out⟩
                  case measure => decide
                · have g1 : (40 : Int) ≤ (N : Int) := by omega
                  rw [Nat.min_eq_left (by omega)] at s1
                  have hS := HS.out l0 l4 hL4 HBf.out N 0 20 40 hN4 (by omega) (by omega) (by omega) (by omega) s0 s1 g cap B wr hC4.1
                  have HSy := Lib.hid hS
                  have H40 := Lib.hid hN40
                  have HS2 := Lib.hid s2
                  clear hS s0 s1 s2 hL4 hC4 hN4 hN40
                  go_wp2_with fail
                  refine HSy.out.mono ?_
                  rintro e w5 ⟨rfl, W5, hW5, hs5, hc5⟩
                  have hlen := (turned_length (a := 0) (b := 40) (Nat.zero_le _) (by have := HN4.out; have := H40.out; omega) hW5).trans HL4.out
                  have hs6 := HS2.out.old (a := 0) (b := 40) (Nat.zero_le _) (by have := HN4.out; have := H40.out; omega) hW5 (.inr (Nat.le_refl _))
                  generalize l4.take 0 ++ (W5 ++ l4.drop 40) = l5 at hs5 hc5 hlen hs6
                  have HT5 : Hid (Mid20 l0 l5 N 40 80) := Lib.hid (.inr ⟨rfl, rfl, H40.out, hs5, hs6⟩)
                  have HL5 := Lib.hid hlen
                  have HC5 : Hid (CutAt l5 g cap B w w5) := Lib.hid ⟨hc5.1, HC4.out.2.trans hc5.2 (fun _ _ c => c)⟩
                  clear hW5 hs5 hc5 hlen hs6
                  go_wp2
                  go_roundw
                  case rel => exact ⟨40, 80, l5, by first | rfl | go_num, by first | rfl | go_num, HT5.out, HL5.out, HC5.out⟩
                  case measure => decide
              · rw [show ((40 : Nat) : Int) = 40 from rfl, show ((80 : Nat) : Int) = 80 from rfl]
                have g1 : decide ((80 : Int) ≤ (N : Int)) = false := decide_eq_false (by omega)
                have g2 : decide (80 ≤ N) = false := decide_eq_false (by omega)
                have g3 : decide ((60 : Int) < (N : Int)) = false := decide_eq_false (by omega)
                have g4 : decide (60 < N) = false := decide_eq_false (by omega)
                have HT5 : Hid (Two20 l0 l4 N 40) := Lib.hid (.inr (.inl ⟨rfl, by omega, by rw [Nat.min_eq_left (by omega)]; exact s0, s1⟩))
                clear s0 s1 hL4 hC4 hN4
                go_wp2
                go_roundw
                case rel => exact ⟨40, l4, by first | rfl | go_num, HT5.out, HL4.out, HC4.out⟩
                case measure => decide
          · rw [show ((40 : Nat) : Int) = 40 from rfl]
            have ht1 : (40 : Int) < (N : Int) := by omega
            have g1 : decide ((80 : Int) ≤ (N : Int)) = false := decide_eq_false (by omega)
            have g2 : decide (80 ≤ N) = false := decide_eq_false (by omega)
            rw [Nat.min_eq_left (by omega)] at s0
            have hS := HS.out l0 l3 HL3.out HBf.out N 0 40 N HN3.out (by omega) (by omega) ht (Nat.le_refl _) s0 s1 g cap B wr HC3.out.1
            have HSy := Lib.hid hS
            have H40 := Lib.hid ht
            clear hS s0 s1
            go_wp2
            refine wp_loop_rounds 1 ?_
            rw [rounds_succ]
            go_wp2_with fail
            refine HSy.out.mono ?_
            rintro e w5 ⟨rfl, W5, hW5, hs5, hc5⟩
            have hlen := (turned_length (a := 0) (b := N) (Nat.zero_le _) (by have := HN3.out; omega) hW5).trans HL3.out
            generalize l3.take 0 ++ (W5 ++ l3.drop N) = l5 at hs5 hc5 hlen
            have HT5 : Hid (Two20 l0 l5 N 80) := Lib.hid (.inr (.inr ⟨rfl, H40.out, hs5⟩))
            have HL5 := Lib.hid hlen
            have HC5 : Hid (CutAt l5 g cap B w w5) := Lib.hid ⟨hc5.1, HC3.out.2.trans hc5.2 (fun _ _ c => c)⟩
            clear hW5 hs5 hc5 hlen
            go_wp2
            go_roundw
            case rel => exact ⟨80, l5, by first | rfl | go_num, HT5.out, HL5.out, HC5.out⟩
            case measure => decide
          · omega
        · have g1 : decide ((t : Int) < (N : Int)) = false := decide_eq_false (by omega)
          have g2 : decide (t < N) = false := decide_eq_false (by omega)
          obtain ⟨hp, hs⟩ := hT3.done ht h60 HN3.out HL3.out
          have HP := Lib.hid hp
          have HSo := Lib.hid hs
          clear hp hs hT3 ht
          go_wp2
          go_end0
          exact ⟨l3, rfl, HP.out, HSo.out, HC3.out⟩
    · have h1 : (b : Int) ≤ (N : Int) := by omega
      have hI := HI.out l0 l hO.len HBf.out N a b hNl (by omega) (by omega) hle h0 hO.raw g cap B wr hC.1
      have hI' := Lib.hid hI
      have Hle := Lib.hid hle
      clear hI hle hO hC hNl hb
      go_wp2_with fail
      refine hI'.out.mono ?_
      rintro e w2 ⟨rfl, W, hW, hs, hc⟩
      have hT : One l0 (l.take a ++ (W ++ l.drop b)) b := by
        have hb := Hb.out
        have h2 := Hle.out
        have h3 := HNl.out
        subst hb
        exact HO.out.step (by omega) (by omega) hW hs
      generalize l.take a ++ (W ++ l.drop b) = l2 at hs hc hT
      have HT := Lib.hid hT
      have HC2 : Hid (CutAt l2 g cap B w w2) := Lib.hid ⟨hc.1, HC.out.2.trans hc.2 (fun _ _ c => c)⟩
      clear hT hc hs hW
      go_wp2
      go_roundw
      case rel => exact ⟨b, b + 20, l2, rfl, by go_num, rfl, Hle.out, HT.out, HC2.out⟩
      case measure => simp only [intOf]; have := Hb.out; have := Hle.out; omega
end Go.Proofs.Ytdalffmmkhcdaaa
