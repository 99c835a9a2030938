/- WALKS: the law WedTwo. -/
import Derived.Test.YtlbonbileoioiaaWedLaws3
namespace Go.Proofs.Ytlbonbileoioiaa
open Go Go.RowKit WedPlain

set_option maxRecDepth 100000 in
set_option maxHeartbeats 2000000 in
theorem WedTwo_walk (A B : List (List Int)) (m : List Int) (a b c : Option Addr) (cap cap' cap2 : Nat) (w : World) (hx : Mat w a A) (hy : Mat w b B) (hl : A.length ≤ 9223372036854775807) (hl' : B.length ≤ 9223372036854775807) (hm : Ints w c m) (hl2 : m.length ≤ 9223372036854775807) :
    Calls Try.prog 5 #[.slice a A.length cap, .slice b B.length cap', .slice c m.length cap2] w fun e w' => e = .returned (.bool true) ∧ Below w.heap.size w w' := by
  go_enter Try.func5, Try.ntmps5
  go_wp2_with fail
  refine (wedFact_any _).mono ?_
  rintro e w0 ⟨rfl, b0⟩
  have HS := Lib.hid (Stable_any A B m a b c cap cap' cap2 _ (hx.below b0) (hy.below b0) (hm.below b0) hl hl' hl2)
  go_wp2_with fail
  refine HS.out.mono ?_
  rintro e w2 ⟨⟨hf, hall, ⟨rfl, hgood⟩ | ⟨i, k, g2, rfl, _, hrow, hi, hk, hbad, _⟩⟩ | ⟨_, k2, hk2, rfl⟩, b2⟩
  · have b02 := b0.trans (b2.mono b0.size)
    have Hf := Lib.hid hf
    clear hgood hf
    go_wp2
    go_ret
    exact ⟨rfl, b02⟩
  · have b02 := b0.trans (b2.mono b0.size)
    have y0 := hrow.cell 0 (by simp)
    have y1 := hrow.cell 1 (by simp)
    have y0 : w2.cell? ⟨g2, 0, none⟩ = some (.int .i64 i) := y0
    have y1 : w2.cell? ⟨g2, 1, none⟩ = some (.int .i64 k) := y1
    have hsh := hf.short
    have hBl := hf.same
    have Hf := Lib.hid hf
    have HA := Lib.hid hall
    have hiI : (i : Int) < A.length := by omega
    have hkB : (k : Int) < B.length := by omega
    obtain ⟨ba, oa, rfl, _, _⟩ := (hx.below b02).open (by omega)
    obtain ⟨ai, ci, c1, c2⟩ := mat_at (i := i) (hx.below b02) hf.a hi (by omega)
    obtain ⟨bb, ob, rfl, _, _⟩ := (hy.below b02).open (by omega)
    obtain ⟨bi, di, c3, c4⟩ := mat_at (i := k) (hy.below b02) hf.b (by omega) (by omega)
    have hml := HA.out.len
    obtain ⟨bm, om, rfl, hcm⟩ := (hm.below b02).open (by omega)
    have c5 := hcm i (by omega)
    have c6 := hm.below b02
    have hmI : (i : Int) < m.length := by omega
    have hrl := (hf.a i hi).len
    have hsl := (hf.b k (by omega)).len
    obtain ⟨q1, q2⟩ := idx_at hall hk
    unfold badP at hbad
    obtain ⟨hb1, hb2⟩ := hbad
    have hu := (mN_cast hall hi).1
    have hun : (m.getD i 0).toNat = mN m i := rfl
    rw [hun] at hb1
    rw [hu] at c5
    unfold plc at hb1 hb2
    generalize mN m i = u at hb1 c5
    generalize A.getD i [] = r at c2 hrl hb1
    generalize B.getD k [] = s at c4 hsl hb2
    have h1 := at_quiet r k ai ci w2 c2 (by omega)
    have h2 := at_quiet r u ai ci w2 c2 (by omega)
    have h3 := at_quiet s i bi di w2 c4 (by omega)
    have h4 := at_quiet m k (some ⟨bm, om, none⟩) cap2 w2 c6 (by omega)
    generalize m.idxOf (k : Int) = j at h4 hb2
    have h5 := at_quiet s j bi di w2 c4 (by omega)
    rw [hrl] at h1 h2
    rw [hsl] at h3 h5
    generalize r.idxOf (k : Int) = p1 at h1 hb1
    generalize r.idxOf (u : Int) = p2 at h2 hb1
    generalize s.idxOf (i : Int) = p3 at h3 hb2
    generalize s.idxOf (j : Int) = p4 at h5 hb2
    have H1 := Lib.hid h1
    have H2 := Lib.hid h2
    have H3 := Lib.hid h3
    have H4 := Lib.hid h4
    have H5 := Lib.hid h5
    have hb1' : p1 < p2 := by omega
    have hb2' : p3 < p4 := by omega
    clear h1 h2 h3 h4 h5 hrl hsl c2 c4 c6 hcm hx hy hm q2 hu hun hf hall hBl hml hrow HS
    go_wp2
    go_quiet (first | (with_reducible exact Calls.quiet_of_same (H1.out _)) | (with_reducible exact Calls.quiet_of_same (H2.out _)) | (with_reducible exact Calls.quiet_of_same (H3.out _)) | (with_reducible exact Calls.quiet_of_same (H4.out _)) | (with_reducible exact Calls.quiet_of_same (H5.out _)))
    go_wp2
    go_ret
    exact ⟨rfl, drewN_below b02 _⟩
  · have b02 := b0.trans (b2.mono b0.size)
    go_wp2
    go_ret
    exact ⟨rfl, b02⟩
end Go.Proofs.Ytlbonbileoioiaa
