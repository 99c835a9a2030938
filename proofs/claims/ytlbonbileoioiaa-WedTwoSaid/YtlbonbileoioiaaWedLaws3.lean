/- WALKS: the laws WedBest, WedTwo. -/
import Derived.Test.YtlbonbileoioiaaWedLaws2
namespace Go.Proofs.Ytlbonbileoioiaa
open Go Go.RowKit WedPlain

theorem at_quiet (xs : List Int) (v : Int) (a : Option Addr) (cap : Nat) (w : World) (hx : Ints w a xs) (hl : xs.length ≤ 9223372036854775807) (n : Nat) :
    Calls Try.prog 11 #[.slice a xs.length cap, .int .i64 v] (w.drewN n) fun e w' => e = .returned (.int .i64 (xs.idxOf v : Nat)) ∧ w' = w.drewN n := at_any xs v a cap _ (hx.drewN n) hl
/-- a row of what came in -/
theorem mat_at {w : World} {b off n i : Nat} {m : List (List Int)} (h : Mat w (some ⟨b, off, none⟩) m) (hs : Side n m) (hi : i < m.length) (hn : 0 < n) :
    ∃ ai ci, w.cell? ⟨b, off + i, none⟩ = some (.slice ai n ci) ∧ Ints w ai (m.getD i []) := by
  obtain ⟨b', off', e, _, hc⟩ := h.open (by omega)
  simp only [Option.some.injEq, Addr.mk.injEq, and_true] at e
  obtain ⟨rfl, rfl⟩ := e
  obtain ⟨ai, ci, c1, c2, _⟩ := hc i hi
  rw [(hs i hi).len] at c1
  exact ⟨ai, ci, c1, c2⟩

set_option maxRecDepth 100000 in
set_option maxHeartbeats 2000000 in
theorem WedBest_walk (A B : List (List Int)) (m : List Int) (a b c : Option Addr) (cap cap' cap2 : Nat) (w : World) (hx : Mat w a A) (hy : Mat w b B) (hl : A.length ≤ 9223372036854775807) (hl' : B.length ≤ 9223372036854775807) (hm : Ints w c m) (hl2 : m.length ≤ 9223372036854775807) :
    Calls Try.prog 4 #[.slice a A.length cap, .slice b B.length cap', .slice c m.length cap2] w fun e w' => e = .returned (.bool true) ∧ Below w.heap.size w w' := by
  go_enter Try.func4, Try.ntmps4
  go_wp2_with fail
  refine (wedFact_any _).mono ?_
  rintro e w0 ⟨rfl, b0⟩
  go_wp2_with fail
  refine (Match_any A B a b cap cap' _ (hx.below b0) (hy.below b0) hl hl').mono ?_
  rintro e w1 ⟨⟨hf, asked, has, g, I, rfl, hI, hg⟩ | ⟨hf, k, hk, rfl⟩, b1⟩
  rotate_left
  · have b01 := b0.trans (b1.mono b0.size)
    have Hf := Lib.hid hf
    clear hf
    go_wp2_with fail
    refine (Stable_any A B m a b c cap cap' cap2 _ (hx.below b01) (hy.below b01) (hm.below b01) hl hl' hl2).mono ?_
    rintro e w2 ⟨⟨hF, _⟩ | ⟨_, k2, hk2, rfl⟩, b2⟩
    · exact absurd hF Hf.out
    · have b02 := b01.trans (b2.mono b01.size)
      go_wp2
      go_ret
      exact ⟨rfl, b02⟩
  have b01 := b0.trans (b1.mono b0.size)
  have HS := Lib.hid (Stable_any A B m a b c cap cap' cap2 _ (hx.below b01) (hy.below b01) (hm.below b01) hl hl' hl2)
  have HI := Lib.hid hI
  have HInv := Lib.hid I
  have Hf := Lib.hid hf
  have hsh := hf.short
  clear hI I hf
  go_wp2_with fail
  refine HS.out.mono ?_
  rintro e w2 ⟨⟨_, hall, ⟨rfl, hgood⟩ | ⟨i, k, g2, rfl, _, _, hi, hk, hbad, _⟩⟩ | ⟨_, k2, hk2, rfl⟩, b2⟩
  · have b02 := b01.trans (b2.mono b01.size)
    have hst := stable_of hall hgood
    have hX := (HI.out.below (b2.mono (Nat.le_refl _)))
    have HML := Lib.hid (mOf_length A asked)
    have HX := Lib.hid hX
    have HA := Lib.hid hall
    have HSt := Lib.hid hst
    have HMA := Lib.hid (mOf_all Hf.out HInv.out)
    have HMS := Lib.hid (mOf_stable Hf.out HInv.out)
    have Hx := Lib.hid (hx.below b02)
    have Hy := Lib.hid (hy.below b02)
    have Hm := Lib.hid (hm.below b02)
    have hne : ((A.length : Int) != (A.length : Int)) = false := by simp
    clear hall hgood hst hX hx hy hm HI b0 b1 b2 b01 HS
    go_wp2
    obtain ⟨ws, hws⟩ : ∃ ws : World, ws = w2 := ⟨_, rfl⟩
    subst hws
    go_loopw [13] (fun i wr => ∃ k : Nat, i = .int .i64 k ∧ k ≤ A.length ∧ Below ws.heap.size ws wr) (fun i _ => A.length - (intOf i).toNat)
    case atStart => exact ⟨0, rfl, Nat.zero_le _, Below.refl _ _⟩
    case round =>
      obtain ⟨i, rfl, hk, hbr⟩ := hrel
      rcases Nat.lt_or_ge i A.length with hlt | hge
      · have hltI : (i : Int) < A.length := by omega
        obtain ⟨ba, oa, rfl, _, _⟩ := (Hx.out.below hbr).open (by omega)
        obtain ⟨ai, ci, c1, c2⟩ := mat_at (Hx.out.below hbr) Hf.out.a hlt (by omega)
        obtain ⟨bm, om, rfl, hcm⟩ := (Hm.out.below hbr).open (by have := HA.out.len; omega)
        have c3 := hcm i (by have := HA.out.len; omega)
        obtain ⟨bg, og, e1, hcx⟩ := (HX.out.below hbr).open (by have := HML.out; omega)
        simp only [Option.some.injEq, Addr.mk.injEq, and_true] at e1
        obtain ⟨rfl, rfl⟩ := e1
        have c4 := hcx i (by have := HML.out; omega)
        rw [Nat.zero_add] at c4
        have hml : (i : Int) < m.length := by have := HA.out.len; omega
        have hrl := (Hf.out.a i hlt).len
        have hbest : (A.getD i []).idxOf ((mOf A asked).getD i 0) ≤ (A.getD i []).idxOf (m.getD i 0) := by
          rw [mOf_getD A asked i hlt, (mN_cast HA.out hlt).1]
          exact HInv.out.best (lists_of Hf.out.a rfl) HSt.out hlt
        generalize A.getD i [] = r at c2 hrl hbest
        generalize (mOf A asked).getD i 0 = v at c4 hbest
        generalize m.getD i 0 = u at c3 hbest
        have h1 := at_quiet r u ai ci wr c2 (by omega)
        have h2 := at_quiet r v ai ci wr c2 (by omega)
        rw [hrl] at h1 h2
        generalize r.idxOf u = p1 at h1 hbest
        generalize r.idxOf v = p2 at h2 hbest
        have H1 := Lib.hid h1
        have H2 := Lib.hid h2
        have hb1 : (p2 : Int) ≤ p1 := by omega
        have hb2 : decide ((p1 : Int) < p2) = false := decide_eq_false (by omega)
        have hb3 : decide (p1 < p2) = false := decide_eq_false (by omega)
        clear h1 h2 hrl c2 hcm hcx
        go_wp2
        go_quiet (first | (with_reducible exact Calls.quiet_of_same (H1.out _)) | (with_reducible exact Calls.quiet_of_same (H2.out _)))
        go_wp2
        go_roundw
        case rel => exact ⟨i + 1, by go_num, by omega, drewN_below hbr _⟩
        case measure => simp only [intOf]; omega
      · obtain rfl : A.length = i := by omega
        have h3 : decide (A.length < A.length) = false := by simp
        go_wp2
        rw [Hf.out.same]
        go_loopw [14] (fun i wr => ∃ k : Nat, i = .int .i64 k ∧ k ≤ A.length ∧ Below ws.heap.size ws wr) (fun i _ => A.length - (intOf i).toNat)
        case atStart => exact ⟨0, rfl, Nat.zero_le _, hbr⟩
        case round =>
          obtain ⟨k, rfl, hk, hbr⟩ := hrel
          rcases Nat.lt_or_ge k A.length with hlt | hge
          · have hltI : (k : Int) < A.length := by omega
            obtain ⟨bb, ob, rfl, _, _⟩ := (Hy.out.below hbr).open (by have := Hf.out.same; omega)
            obtain ⟨ai, ci, c1, c2⟩ := mat_at (i := k) (Hy.out.below hbr) Hf.out.b (by have := Hf.out.same; omega) (by omega)
            have hrl := (Hf.out.b k (by have := Hf.out.same; omega)).len
            obtain ⟨j1, j2⟩ := idx_at HA.out hlt
            obtain ⟨i1, i2⟩ := idx_at HMA.out hlt
            have hworst : (B.getD k []).idxOf ((m.idxOf (k : Int) : Nat) : Int) ≤ (B.getD k []).idxOf (((mOf A asked).idxOf (k : Int) : Nat) : Int) := by
              have e1 : mN m (m.idxOf (k : Int)) = k := by unfold mN; rw [j2]; simp
              have e2 : outOf (aOf A) asked ((mOf A asked).idxOf (k : Int)) = k := by
                rw [mOf_getD A asked _ i1] at i2; omega
              have h := HInv.out.worst (lists_of Hf.out.a rfl) HSt.out i1 j1 (by rw [e1, e2])
              rw [e1] at h
              exact h
            have h1 := at_quiet m k c cap2 wr (Hm.out.below hbr) (by have := HA.out.len; omega)
            have h2 := at_quiet (mOf A asked) k (some ⟨g, 0, none⟩) A.length wr (HX.out.below hbr) (by have := HML.out; omega)
            rw [HML.out] at h2
            generalize m.idxOf (k : Int) = j at h1 j1 hworst
            generalize (mOf A asked).idxOf (k : Int) = i at h2 i1 hworst
            generalize B.getD k [] = r at c2 hrl hworst
            have h3 := at_quiet r j ai ci wr c2 (by omega)
            have h4 := at_quiet r i ai ci wr c2 (by omega)
            rw [hrl] at h3 h4
            generalize r.idxOf (j : Int) = p1 at h3 hworst
            generalize r.idxOf (i : Int) = p2 at h4 hworst
            have H1 := Lib.hid h1
            have H2 := Lib.hid h2
            have H3 := Lib.hid h3
            have H4 := Lib.hid h4
            have hb1 : (p1 : Int) ≤ p2 := by omega
            have hb2 : decide ((p2 : Int) < p1) = false := decide_eq_false (by omega)
            have hb3 : decide (p2 < p1) = false := decide_eq_false (by omega)
            clear h1 h2 h3 h4 hrl c2 j2 i2
            go_wp2
            go_quiet (first | (with_reducible exact Calls.quiet_of_same (H1.out _)) | (with_reducible exact Calls.quiet_of_same (H2.out _)) | (with_reducible exact Calls.quiet_of_same (H3.out _)) | (with_reducible exact Calls.quiet_of_same (H4.out _)))
            go_wp2
            go_roundw
            case rel => exact ⟨k + 1, by go_num, by omega, drewN_below hbr _⟩
            case measure => simp only [intOf]; omega
          · obtain rfl : A.length = k := by omega
            have h3 : decide (A.length < A.length) = false := by simp
            have hBl : (B.length : Int) ≤ A.length := by have := Hf.out.same; omega
            go_wp2
            go_ret
            exact ⟨rfl, b02.trans (hbr.mono b02.size)⟩
  · have b02 := b01.trans (b2.mono b01.size)
    clear hbad
    go_wp2
    go_ret
    exact ⟨rfl, b02⟩
  · have b02 := b01.trans (b2.mono b01.size)
    go_wp2
    go_ret
    exact ⟨rfl, b02⟩
end Go.Proofs.Ytlbonbileoioiaa
