/- WALK: desk.numbers: words read as short numbers. -/
import Derived.Test.YtfejlkgddnamoaaGreatDoorBkReads
import Derived.Test.YtfejlkgddnamoaaGreatDoorDeskShelf
import Derived.Test.YtfejlkgddnamoaaGreatDoorDeskPlain
import Derived.Maps.AppendAt
set_option linter.unusedVariables false
set_option linter.unusedSimpArgs false
namespace Go.Proofs.YtfejlkgddnamoaaGreatDoor
open Go Go.RowKit BookPlain NumPlain

/-- what package desk's variable holds -/
def BadG (w : World) : Prop := ∃ p, w.cell? ⟨1, 0, none⟩ = some (.iface 184 p)
theorem BadG.to {w w' : World} (h : BadG w) (hb : Below w.heap.size w w') : BadG w' := by
  obtain ⟨p, hp⟩ := h
  exact ⟨p, (hb.cell (p := ⟨1, 0, none⟩) (World.block_lt_of_cell? w _ hp)).trans hp⟩
/-- words that lie in a row -/
def StrsA (w : World) (a : Option Addr) (ws : List (List UInt8)) : Prop := ws = [] ∨ ∃ b off, a = some ⟨b, off, none⟩ ∧ ∀ i, i < ws.length → w.cell? ⟨b, off + i, none⟩ = some (.string ⟨(ws.getD i []).toArray⟩)
/-- all of them, if all are -/
def nums : List (List UInt8) → Option (List Int)
  | [] => some []
  | s :: ws => match shortP s, nums ws with
    | some n, some l => some (n :: l)
    | _, _ => none
theorem nums_snoc (ws : List (List UInt8)) (s : List UInt8) (l : List Int) (n : Int) (h : nums ws = some l) (hs : shortP s = some n) : nums (ws ++ [s]) = some (l ++ [n]) := by
  induction ws generalizing l with
  | nil =>
    simp only [nums, Option.some.injEq] at h
    subst h
    simp [nums, hs]
  | cons t ws ih =>
    simp only [nums] at h
    cases h1 : shortP t with
    | none => rw [h1] at h; cases h
    | some k =>
      cases h2 : nums ws with
      | none => rw [h1, h2] at h; cases h
      | some l2 =>
        rw [h1, h2] at h
        simp only [Option.some.injEq] at h
        subst h
        simp [nums, h1, ih l2 h2]
theorem nums_none (ws : List (List UInt8)) (i : Nat) (hi : i < ws.length) (h : shortP (ws.getD i []) = none) : nums ws = none := by
  induction ws generalizing i with
  | nil => simp at hi
  | cons t ws ih =>
    cases i with
    | zero =>
      simp only [List.getD_cons_zero] at h
      simp [nums, h]
    | succ i =>
      simp only [List.getD_cons_succ] at h
      have := ih i (by simpa using hi) h
      simp only [nums, this]
      cases shortP t <;> rfl
theorem nums_len : ∀ (ws : List (List UInt8)) (l : List Int), nums ws = some l → l.length = ws.length
  | [], l, h => by simp only [nums, Option.some.injEq] at h; rw [← h]; rfl
  | t :: ws, l, h => by
    simp only [nums] at h
    cases h1 : shortP t with
    | none => rw [h1] at h; cases h
    | some k =>
      cases h2 : nums ws with
      | none => rw [h1, h2] at h; cases h
      | some l2 =>
        rw [h1, h2] at h
        simp only [Option.some.injEq] at h
        rw [← h, List.length_cons, List.length_cons, nums_len ws l2 h2]
def NumsRes (ws : List (List UInt8)) (w : World) (e : Ending) (w' : World) : Prop :=
  Below w.heap.size w w' ∧ ((∃ l a c, nums ws = some l ∧ e = .returned (.tuple #[.slice a l.length c, .nilIface]) ∧ (0 < l.length → ∃ g, a = some ⟨g, 0, none⟩ ∧ w.heap.size ≤ g ∧ ∀ i, i < l.length → w'.cell? ⟨g, i, none⟩ = some (.int .i64 (l.getD i 0)))) ∨ (nums ws = none ∧ ∃ p, e = .returned (.tuple #[.slice none 0 0, .iface 184 p])))
theorem dintInfo : (Tryz.prog.info? 3).map (fun i => (i.zero, i.size, i.bytes)) = some (some (.int .i64 0), 1, 8) := by kernel_rfl
theorem dcell_one (w : World) (v : Int) (t : TypeId) (g : Nat) (hg : g = w.heap.size) : ∀ j u, [Value.int .i64 v][j]? = some u → (w.alloc (.cells #[.int .i64 v] t)).cell? ((⟨g, 0, none⟩ : Addr).add j) = some u := by
  subst hg; exact cell_one_new w _ t
theorem nums_grow {w w2 w3 W : World} {l : List Int} {v v' : Value} {n : Int} {k : Nat} (h : w2.ownsRow w.heap.size 3 1 v k (l.map (Value.int .i64))) (hk : k = l.length) (hb : Below w.heap.size w w2) (hW : W = w2.alloc (.cells #[.int .i64 n] 3))
    (ho : w3.ownsRow w.heap.size 3 1 v' (k + 1) (l.map (Value.int .i64) ++ [.int .i64 n])) (hg : W.grownBy w3 v.ownBlock) :
    (∃ a c, v' = .slice a (l ++ [n]).length c) ∧ w3.ownsRow w.heap.size 3 1 v' (l ++ [n]).length ((l ++ [n]).map (Value.int .i64)) ∧ Below w.heap.size w w3 := by
  have e : (l ++ [n]).length = k + 1 := by rw [List.length_append, hk]; rfl
  have ho' : w3.ownsRow w.heap.size 3 1 v' (l ++ [n]).length ((l ++ [n]).map (Value.int .i64)) := by rw [e, List.map_append]; exact ho
  refine ⟨?_, ho', ?_⟩
  · rcases ho'.2 with ⟨hv, h0⟩ | ⟨g, cap, cur, hv, _⟩
    · exact ⟨none, 0, by rw [hv, h0]⟩
    · exact ⟨_, _, hv⟩
  · have hs := hb.size
    have bW : Below w.heap.size w W := by rw [hW]; exact hb.alloc hs _
    exact bW.trans ⟨hg.os, hg.tape, hg.output, hg.size, fun i hi => hg.block i (by have := bW.size; omega) (fun c => by have := (World.ownsRow.lt h i c.symm).1; omega)⟩
theorem nums_ints {w3 : World} {B : Nat} {l : List Int} {a : Option Addr} {c : Nat} (h : w3.ownsRow B 3 1 (.slice a l.length c) l.length (l.map (Value.int .i64))) (h0 : 0 < l.length) : ∃ g, a = some ⟨g, 0, none⟩ ∧ B ≤ g ∧ ∀ i, i < l.length → w3.cell? ⟨g, i, none⟩ = some (.int .i64 (l.getD i 0)) := by
  obtain ⟨g, c', hv, hB, _, hi⟩ := owns_ints h h0
  simp only [Value.slice.injEq] at hv
  refine ⟨g, hv.1, hB, ?_⟩
  rcases hi with hi | ⟨b, off, e, hc⟩
  · rw [hi] at h0; simp at h0
  · simp only [Option.some.injEq, Addr.mk.injEq, and_true] at e
    obtain ⟨rfl, rfl⟩ := e
    intro i hi
    have := hc i hi
    rwa [Nat.zero_add] at this

/-! one word: what Atoi and what comes behind it tell -/
theorem short_cases (s : List UInt8) (hs : s.length ≤ 281474976710656) (w : World) (env : Env w) :
    (∃ v, shortP s = some v ∧ (Lib.trimPrefix s [45]).length ≤ 7 ∧ Lib.itoa v = s ∧ -9223372036854775808 ≤ v ∧ v ≤ 9223372036854775807 ∧
      ∀ W, Calls Tryz.prog 67 #[.string ⟨s.toArray⟩] W fun e w' => e = .returned (.tuple #[.int .i64 v, .nilIface]) ∧ Below W.heap.size W w') ∨
    (shortP s = none ∧ 7 < (Lib.trimPrefix s [45]).length ∧ ∃ v, ∀ W, Calls Tryz.prog 67 #[.string ⟨s.toArray⟩] W fun e w' => e = .returned (.tuple #[.int .i64 v, .nilIface]) ∧ Below W.heap.size W w') ∨
    (shortP s = none ∧ (Lib.trimPrefix s [45]).length ≤ 7 ∧ ∃ v, Lib.itoa v ≠ s ∧ -9223372036854775808 ≤ v ∧ v ≤ 9223372036854775807 ∧
      ∀ W, Calls Tryz.prog 67 #[.string ⟨s.toArray⟩] W fun e w' => e = .returned (.tuple #[.int .i64 v, .nilIface]) ∧ Below W.heap.size W w') ∨
    (shortP s = none ∧ ∃ v, ∀ W, Below w.heap.size w W → Calls Tryz.prog 67 #[.string ⟨s.toArray⟩] W fun e w' => ∃ N, e = .returned (.tuple #[.int .i64 v, .iface 171 (.pointer (some ⟨N, 0, none⟩))]) ∧ Below W.heap.size W w') := by
  obtain ⟨X, hX⟩ : ∃ X : ByteArray, X = ⟨s.toArray⟩ := ⟨_, rfl⟩
  have hXd : X.data.toList = s := by rw [hX]
  have hXs : X.size = s.length := by rw [Lib.size_eq, hXd]
  rw [← hX]
  cases ha : Lib.atoiAll s with
  | ok v =>
    obtain ⟨v0, v1⟩ := Lib.atoiAll_bounds ha
    have hA : ∀ W, Calls Tryz.prog 67 #[.string X] W fun e w' => e = .returned (.tuple #[.int .i64 v, .nilIface]) ∧ Below W.heap.size W w' := fun W => by
      refine (si_strconv_Atoi_ok X (by omega) v (by rw [hXd]; exact ha) W).mono ?_
      rintro e w' ⟨rfl, hw⟩
      refine ⟨rfl, ?_⟩
      rcases hw with rfl | ⟨t, rfl⟩
      · exact Below.refl _ _
      · exact Lib.bytesWorld_below _ _ _
    have hn : numP s = if Lib.itoa v = s then some v else none := by unfold numP; rw [ha]
    rcases Nat.lt_or_ge 7 (Lib.trimPrefix s [45]).length with h7 | h7
    · refine .inr (.inl ⟨?_, h7, v, hA⟩)
      unfold shortP
      cases numP s with
      | none => rfl
      | some n => simp only; rw [if_neg (by omega)]
    · by_cases he : Lib.itoa v = s
      · refine .inl ⟨v, ?_, h7, he, v0, v1, hA⟩
        unfold shortP
        rw [hn, if_pos he]
        simp only; rw [if_pos h7]
      · refine .inr (.inr (.inl ⟨?_, h7, v, he, v0, v1, hA⟩))
        unfold shortP
        rw [hn, if_neg he]
  | range =>
    have hn : numP s = none := by unfold numP; rw [ha]
    obtain ⟨tp, p, hv⟩ := env.rng
    refine .inr (.inr (.inr ⟨by unfold shortP; rw [hn], Lib.atoiSat s, fun W b => ?_⟩))
    obtain ⟨tp, p, hv⟩ := (env.to b).rng
    have h := si_strconv_Atoi_range_var X (by omega) (by rw [hXd]; exact ha) tp p W hv
    rw [hXd] at h
    exact h.mono fun e w' ⟨N, he, _, _, hb⟩ => ⟨N, he, hb⟩
  | _ =>
    have hn : numP s = none := by unfold numP; rw [ha]
    refine .inr (.inr (.inr ⟨by unfold shortP; rw [hn], 0, fun W b => ?_⟩))
    obtain ⟨tp, p, hv⟩ := (env.to b).syn
    have h := si_strconv_Atoi_syntax_var X (by omega) (by rw [hXd]; exact ha) tp p W hv
    exact h.mono fun e w' ⟨N, he, _, _, hb⟩ => ⟨N, he, hb⟩
theorem ownsRow_below {w w' : World} {B e n : Nat} {v : Value} {xs : List Value} (h : w.ownsRow B e 1 v n xs) (hb : Below w.heap.size w w') : w'.ownsRow B e 1 v n xs := by
  refine ⟨h.1, ?_⟩
  rcases h.2 with h2 | ⟨g, cap, cur, h', hbg, hg, hr⟩
  · exact .inl h2
  · exact .inr ⟨g, cap, cur, h', hbg, (hb.block g (lt_of_block hg)).trans hg, hr⟩
set_option maxRecDepth 100000 in
set_option maxHeartbeats 4000000 in
theorem numbers_any (ws : List (List UInt8)) (a : Option Addr) (cap : Nat) (w : World) (env : Env w) (hbad : BadG w) (hx : StrsA w a ws) (hl : ws.length ≤ 1000) (hs : ∀ i, i < ws.length → (ws.getD i []).length ≤ 2000000) :
    Calls Tryz.prog 53 #[.slice a ws.length cap] w fun e w' => NumsRes ws w e w' := by
  obtain ⟨i0, hi0, hz0, hz1, hz2⟩ := info_parts dintInfo
  have HEnv := Lib.hid env
  have HBad := Lib.hid hbad
  have HX := Lib.hid hx
  have HS := Lib.hid hs
  obtain ⟨N, hN⟩ : ∃ N, N = ws.length := ⟨_, rfl⟩
  have HN := Lib.hid hN
  rw [← hN] at hl ⊢
  clear env hbad hx hs hN
  go_enter Tryz.func53, Tryz.ntmps53
  go_wp2
  go_loopw [4, 12] (fun sv iv wr => ∃ (i : Nat) (l : List Int) (v : Value), iv = .int .i64 i ∧ i ≤ N ∧ sv = v ∧ l.length = i ∧ nums (ws.take i) = some l ∧ (∃ a c, v = .slice a i c) ∧ wr.ownsRow w.heap.size 3 1 v i (l.map (Value.int .i64)) ∧ Below w.heap.size w wr) (fun _ iv _ => N - (intOf iv).toNat)
  case atStart => exact ⟨0, [], _, rfl, Nat.zero_le _, rfl, rfl, rfl, ⟨none, 0, rfl⟩, World.ownsRow_nil _ _ _ _, Below.refl _ _⟩
  case round =>
    obtain ⟨i, l, v, rfl, hiN, rfl, hli, hnum, ⟨av, cv, rfl⟩, hown, hb⟩ := hrel
    have HOwn := Lib.hid hown
    have HB := Lib.hid hb
    have HNum := Lib.hid hnum
    have HLi := Lib.hid hli
    rcases Nat.lt_or_ge i N with hlt | hge
    · have hI : (i : Int) < (N : Int) := by omega
      have hii : i < ws.length := by rw [← HN.out]; exact hlt
      have hxw : StrsA w a ws := HX.out
      rcases hxw with h0 | ⟨b, off, rfl, hcs⟩
      · rw [h0] at hii; simp at hii
      · have hc0 := hcs i hii
        have hbl := World.block_lt_of_cell? w _ hc0
        have hc1 := (hb.cell (p := ⟨b, off + i, none⟩) hbl).trans hc0
        obtain ⟨s, hsd⟩ : ∃ s, s = ws.getD i [] := ⟨_, rfl⟩
        rw [← hsd] at hc1
        have hsl : s.length ≤ 2000000 := by rw [hsd]; exact HS.out i hii
        have HSd := Lib.hid hsd
        have hcases := short_cases s (by omega) wr (HEnv.out.to hb)
        have hTP : ∀ W, Calls Tryz.prog 81 #[.string ⟨s.toArray⟩, .string ⟨#[45]⟩] W fun e w' => e = .returned (.string ⟨(Lib.trimPrefix s [45]).toArray⟩) ∧ w' = W := fun W => sd_strings_TrimPrefix ⟨s.toArray⟩ ⟨#[45]⟩ W
        obtain ⟨D, hD⟩ : ∃ D : ByteArray, D = ⟨(Lib.trimPrefix s [45]).toArray⟩ := ⟨_, rfl⟩
        have hDs : D.size = (Lib.trimPrefix s [45]).length := by rw [hD]; exact mk_size _
        rw [← hDs] at hcases
        rw [← hD] at hTP
        have HTP := Lib.hid hTP
        obtain ⟨X, hX⟩ : ∃ X : ByteArray, X = ⟨s.toArray⟩ := ⟨_, rfl⟩
        have hXt : X.toList = s := by rw [toList_dt, hX]
        rw [← hX] at hc1 hcases HTP
        have HXt := Lib.hid hXt
        have hfail : Hid (shortP s = none → ∀ w1, Below w.heap.size w w1 → (∃ p, w1.cell? ⟨1, 0, none⟩ = some (.iface 184 p)) ∧ ∀ p w2, Below w1.heap.size w1 w2 → NumsRes ws w (.returned (.tuple #[.slice none 0 0, .iface 184 p])) w2) := Lib.hid fun h w1 b1 =>
          ⟨HBad.out.to b1, fun p w2 b2 => ⟨b1.trans (b2.mono b1.size), .inr ⟨nums_none ws i (by rw [← HN.out]; exact hlt) (by rw [← HSd.out]; exact h), p, rfl⟩⟩⟩
        clear hcs hc0 hown hb hnum hli hsd hsl hTP hD hDs hX hXt hii
        rcases hcases with ⟨v, h1, h2, h3, v0, v1, hA⟩ | ⟨h1, h2, v, hA⟩ | ⟨h1, h2, v, h3, v0, v1, hA⟩ | ⟨h1, v, hA⟩
        · have HA := Lib.hid hA
          have H1 := Lib.hid h1
          have h2I : (D.size : Int) ≤ 7 := by omega
          have HI : Hid (∀ W, Below w.heap.size w W → Calls Tryz.prog 23 #[.int .i64 v] W fun e w' => e = .returned (.string X) ∧ Below W.heap.size W w') := Lib.hid fun W b => by
            have e : X = ⟨(Lib.itoa v).toArray⟩ := by
              apply ByteArray.ext; apply Array.toList_inj.1
              rw [h3, ← toList_dt, HXt.out]
            rw [e]; exact Itoa_any v v0 v1 W (HEnv.out.to b).tab
          clear h1 h2 h3 hA
          go_wp2_with fail
          refine (HTP.out _).mono ?_
          rintro e w1 ⟨rfl, rfl⟩
          go_wp2_with fail
          refine (HA.out _).mono ?_
          rintro e w2 ⟨rfl, hb2⟩
          have HB2 : Hid (Below w.heap.size w w2) := Lib.hid (HB.out.trans (hb2.mono HB.out.size))
          have HOwn2 := Lib.hid (ownsRow_below HOwn.out hb2)
          clear hb2
          go_wp2_with fail
          refine (HI.out _ HB2.out).mono ?_
          rintro e w3 ⟨rfl, hb3⟩
          have HB3 : Hid (Below w.heap.size w w3) := Lib.hid (HB2.out.trans (hb3.mono HB2.out.size))
          have HOwn3 := Lib.hid (ownsRow_below HOwn2.out hb3)
          have hw3 := HB3.out.size
          clear hb3 hc1
          go_wp2_with (at_builtin; refine wpList_append_own_at _ rfl _ _ 103 rfl w.heap.size 3 i0 (.int .i64 0) 1 8 Tryz.underlying103 hi0 hz0 hz1 hz2 rfl (by decide) (.slice av i cv) i (l.map (Value.int .i64)) rfl (World.ownsRow.alloc HOwn3.out _) ⟨w3.heap.size, 0, none⟩ 1 1 [.int .i64 v] rfl rfl (dcell_one _ _ _ _ rfl) (by simp [Value.oneCell']) (by unfold maxLen; omega) (by omega) (by simp; omega) ?_; intro v4 w4 own4 gr4 _ _; obtain ⟨⟨a4, c4, hv4⟩, ho4, hb4⟩ := nums_grow HOwn3.out HLi.out.symm HB3.out rfl own4 gr4; subst hv4; have HO4 := Lib.hid ho4; have HB4 := Lib.hid hb4; clear own4 gr4 ho4 hb4)
          go_roundw
          case rel =>
            refine ⟨i + 1, l ++ [v], _, by go_num, by omega, rfl, by simp [HLi.out], ?_, ⟨a4, c4, by simp [HLi.out]⟩, ?_, HB4.out⟩
            · rw [List.take_add_one, List.getElem?_eq_getElem (by rw [← HN.out]; exact hlt)]
              refine nums_snoc _ _ _ _ HNum.out ?_
              rw [← H1.out, HSd.out, List.getD_eq_getElem?_getD, List.getElem?_eq_getElem (by rw [← HN.out]; exact hlt)]; rfl
            · have h := HO4.out
              simp only [List.length_append, HLi.out] at h ⊢
              exact h
          case measure => simp only [intOf]; omega
        · have HA := Lib.hid hA
          have HF := Lib.hid (hfail.out h1)
          have h2I : (7 : Int) < (D.size : Int) := by omega
          clear h1 h2 hA
          go_wp2_with fail
          refine (HTP.out _).mono ?_
          rintro e w1 ⟨rfl, rfl⟩
          go_wp2_with fail
          refine (HA.out _).mono ?_
          rintro e w2 ⟨rfl, hb2⟩
          obtain ⟨⟨p, hp⟩, hres⟩ := HF.out w2 (HB.out.trans (hb2.mono HB.out.size))
          have HRes := Lib.hid hres
          clear hb2 hres hc1
          go_wp2_with fail
          go_quiet (fail)
          go_wp2
          go_ret2
          exact HRes.out _ _ (below_drewN (Below.refl _ _) _)
        · have HA := Lib.hid hA
          have HF := Lib.hid (hfail.out h1)
          have h2I : (D.size : Int) ≤ 7 := by omega
          obtain ⟨Z, hZ⟩ : ∃ Z : ByteArray, Z = ⟨(Lib.itoa v).toArray⟩ := ⟨_, rfl⟩
          have hne : (Z.toList == X.toList) = false := by
            rw [beq_eq_false_iff_ne, HXt.out, toList_dt, hZ]; exact h3
          have HI : Hid (∀ W, Below w.heap.size w W → Calls Tryz.prog 23 #[.int .i64 v] W fun e w' => e = .returned (.string Z) ∧ Below W.heap.size W w') := Lib.hid fun W b => by
            rw [hZ]; exact Itoa_any v v0 v1 W (HEnv.out.to b).tab
          clear h1 h2 h3 hA hZ
          go_wp2_with fail
          refine (HTP.out _).mono ?_
          rintro e w1 ⟨rfl, rfl⟩
          go_wp2_with fail
          refine (HA.out _).mono ?_
          rintro e w2 ⟨rfl, hb2⟩
          have HB2 : Hid (Below w.heap.size w w2) := Lib.hid (HB.out.trans (hb2.mono HB.out.size))
          clear hb2
          go_wp2_with fail
          refine (HI.out _ HB2.out).mono ?_
          rintro e w3 ⟨rfl, hb3⟩
          obtain ⟨⟨p, hp⟩, hres⟩ := HF.out w3 (HB2.out.trans (hb3.mono HB2.out.size))
          have HRes := Lib.hid hres
          clear hb3 hres hc1
          go_wp2_with fail
          go_quiet (fail)
          go_wp2
          go_ret2
          exact HRes.out _ _ (below_drewN (Below.refl _ _) _)
        · have HA := Lib.hid (hA wr (Below.refl _ _))
          have HF := Lib.hid (hfail.out h1)
          clear h1 hA
          go_wp2_with fail
          refine (HTP.out _).mono ?_
          rintro e w1 ⟨rfl, rfl⟩
          go_wp2_with fail
          refine HA.out.mono ?_
          rintro e w2 ⟨N, rfl, hb2⟩
          obtain ⟨⟨p, hp⟩, hres⟩ := HF.out w2 (HB.out.trans (hb2.mono HB.out.size))
          have HRes := Lib.hid hres
          clear hb2 hres hc1
          go_wp2_with fail
          go_quiet (fail)
          go_wp2
          go_ret2
          exact HRes.out _ _ (below_drewN (Below.refl _ _) _)
    · obtain rfl : i = N := by omega
      have hI : decide ((i : Int) < (i : Int)) = false := by simp
      have hI2 : decide (i < i) = false := by simp
      have hall : nums ws = some l := by rw [← HNum.out, HN.out, List.take_length]
      have HRes : Hid (NumsRes ws w (.returned (.tuple #[.slice av i cv, .nilIface])) wr) := Lib.hid ⟨HB.out, .inl ⟨l, av, cv, hall, by rw [HLi.out], fun h0 => nums_ints (c := cv) (by rw [HLi.out]; exact HOwn.out) h0⟩⟩
      clear hown hb hnum hli hall
      go_wp2
      go_ret2
      exact HRes.out
end Go.Proofs.YtfejlkgddnamoaaGreatDoor
