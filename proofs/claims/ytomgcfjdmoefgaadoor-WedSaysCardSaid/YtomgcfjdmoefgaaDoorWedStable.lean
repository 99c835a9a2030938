/- WALK: wed.Stable. -/
import Derived.Test.YtomgcfjdmoefgaaDoorWedLists
namespace Go.Proofs.YtomgcfjdmoefgaaDoor
open Go Go.RowKit

/-- would i and k rather have each other? -/
def badP (A B : List (List Int)) (m : List Int) (i k : Nat) : Prop :=
  plc (A.getD i []) k < plc (A.getD i []) ((m.getD i 0).toNat) ∧ plc (B.getD k []) i < plc (B.getD k []) (m.idxOf (k : Int))
/-- what Stable tells -/
def StableRes (A B : List (List Int)) (m : List Int) (w : World) (e : Ending) (w' : World) : Prop :=
  ((FineW A B ∧ AllOf A.length m ∧ ((e = .returned (.tuple #[.bool true, .slice none 0 0, .nilIface]) ∧ ∀ i k, i < A.length → k < A.length → ¬ badP A B m i k) ∨
    ∃ i k g : Nat, e = .returned (.tuple #[.bool false, .slice (some ⟨g, 0, none⟩) 2 2, .nilIface]) ∧ w.heap.size ≤ g ∧ Row w' g 3 [(i : Int), (k : Int)] ∧ i < A.length ∧ k < A.length ∧ badP A B m i k ∧ ∀ i' k', k' < A.length → (i' < i ∨ i' = i ∧ k' < k) → ¬ badP A B m i' k')) ∨
   (¬ (FineW A B ∧ AllOf A.length m) ∧ ∃ c : Int, c ≠ 0 ∧ e = .returned (.tuple #[.bool false, .slice none 0 0, .iface 81 (.int .i64 c)]))) ∧ Below w.heap.size w w'

theorem tab_at {w : World} {T n i : Nat} {m : List (List Int)} (h : Mat w (some ⟨T, 0, none⟩) (m.map (plcL n))) (hi : i < m.length) (hn : 0 < n) :
    ∃ bi oi ci, w.cell? ⟨T, i, none⟩ = some (.slice (some ⟨bi, oi, none⟩) n ci) ∧ ∀ t, t < n → w.cell? ⟨bi, oi + t, none⟩ = some (.int .i64 (plc (m.getD i []) t)) := by
  have hg : (m.map (plcL n)).getD i [] = plcL n (m.getD i []) := by
    rw [List.getD_eq_getElem?_getD, List.getElem?_map, List.getD_eq_getElem?_getD, List.getElem?_eq_getElem hi]; rfl
  have hlen : (plcL n (m.getD i [])).length = n := by simp [plcL]
  obtain ⟨b, off, e, _, hc⟩ := h.open (by simp; omega)
  simp only [Option.some.injEq, Addr.mk.injEq, and_true] at e
  obtain ⟨rfl, rfl⟩ := e
  obtain ⟨ai, ci, c1, c2, _⟩ := hc i (by simpa using hi)
  rw [hg] at c1 c2
  rw [hlen, Nat.zero_add] at c1
  obtain ⟨bi, oi, rfl, hcell⟩ := c2.open (by omega)
  refine ⟨bi, oi, ci, c1, fun t ht => ?_⟩
  rw [hcell t (by omega), plcL_getD n _ t ht]

set_option maxRecDepth 100000 in
set_option maxHeartbeats 1000000 in
theorem Stable_any (A B : List (List Int)) (m : List Int) (a b c : Option Addr) (cap cap' cap2 : Nat) (w : World) (hx : Mat w a A) (hy : Mat w b B) (hm : Ints w c m) (hl : A.length ≤ 9223372036854775807) (hl' : B.length ≤ 9223372036854775807) (hl2 : m.length ≤ 9223372036854775807) :
    Calls Tryd.prog 33 #[.slice a A.length cap, .slice b B.length cap', .slice c m.length cap2] w fun e w' => StableRes A B m w e w' := by
  have hC := Lib.hid (CheckW_any A B a b cap cap' w hx hy hl hl')
  go_enter Tryd.func33, Tryd.ntmps33
  go_wp2_with fail
  refine hC.out.mono ?_
  rintro e w1 ⟨⟨rfl, hF⟩ | ⟨k, hk, rfl, hF⟩, hb⟩
  rotate_left
  · have HF := Lib.hid hF
    clear hF
    go_wp2
    go_ret3
    exact ⟨.inr ⟨fun h => HF.out h.1, k, hk, rfl⟩, hb⟩
  have hsh := hF.short
  have hW := Lib.hid (Whole_any A.length m c cap2 w1 (hm.below hb) (by omega) hl2)
  have HF := Lib.hid hF
  clear hF hC
  go_wp2_with fail
  refine hW.out.mono ?_
  rintro e w2 ⟨⟨rfl, hA⟩ | ⟨k, hk, rfl, hA⟩, hb2⟩
  rotate_left
  · have hb3 := hb.trans (hb2.mono hb.size)
    have HA := Lib.hid hA
    clear hA hb2
    go_wp2
    go_ret3
    exact ⟨.inr ⟨fun h => HA.out h.2, k, hk, rfl⟩, hb3⟩
  have hb02 := hb.trans (hb2.mono hb.size)
  have hsz2 := hb02.size
  have HA := Lib.hid hA
  have hP1 := Lib.hid (places_any A A.length a cap w2 (hx.below hb02) HF.out.a (by omega) (by omega))
  clear hA hW hb2
  go_wp2_with fail
  refine hP1.out.mono ?_
  rintro e w3 ⟨TX, rfl, hTX, hMX, hb3⟩
  have hb03 := hb02.trans (hb3.mono hsz2)
  have hsz3 := hb03.size
  have hsz3' := hb3.size
  have hP2' := places_any B A.length b cap' w3 (hy.below hb03) HF.out.b (by omega) (by have := HF.out.same; omega)
  rw [HF.out.same] at hP2'
  have hP2 := Lib.hid hP2'
  have HMX := Lib.hid hMX
  clear hP2' hP1 hMX
  rw [HF.out.same]
  go_wp2_with fail
  refine hP2.out.mono ?_
  rintro e w4 ⟨TY, rfl, hTY, hMY, hb4⟩
  rw [HF.out.same]
  have hb04 := hb03.trans (hb4.mono hsz3)
  have hsz4 := hb04.size
  have HMX4 := Lib.hid (HMX.out.below hb4)
  have HMY := Lib.hid hMY
  have Hm4 := Lib.hid (hm.below hb04)
  have Hml := Lib.hid HA.out.len
  have hmk := fun w => run_make_row' (P := Tryd.prog) 22 3 (.int .i64 0) 8 Tryd.underlying22 (by kernel_rfl) rfl .i64 .i64 A.length (by omega) (by omega) w
  rw [Hml.out]
  clear hP2 hMY HMX hb3 hb4 hx hy hm hl hl' hl2
  have Hb04 := Lib.hid hb04
  clear hb hb02 hb03 hb04
  obtain ⟨gw, hgw⟩ : ∃ g, g = w4.heap.size := ⟨_, rfl⟩
  have hM0 := (World.rowIs_made w4 (.int .i64 0) A.length 3)
  rw [← hgw] at hM0
  have HM0 := Lib.hid hM0
  clear hM0
  go_wp2
  rw [← hgw]
  have Hgw := Lib.hid hgw
  clear hgw hmk
  go_loopw [40] (fun i wx => ∃ j : Nat, i = .int .i64 j ∧ j ≤ A.length ∧ wx.rowIs gw 3 A.length (fun q => .int .i64 (if (q : Int) ∈ m.take j then (m.idxOf (q : Int) : Nat) else 0)) ∧ Below w4.heap.size w4 wx) (fun i _ => A.length - (intOf i).toNat)
  case atStart => exact ⟨0, rfl, Nat.zero_le _, HM0.out.congr (fun q _ => by simp), (Below.refl _ _).alloc (Nat.le_refl _) _⟩
  case round =>
    obtain ⟨j, rfl, hj, hrow, hbx⟩ := hrel
    have Hbx := Lib.hid hbx
    rcases Nat.lt_or_ge j A.length with hlt | hge
    · have hjm : j < m.length := by have := Hml.out; omega
      obtain ⟨bm, om, rfl, hcm⟩ := (Hm4.out.below hbx).open (by omega)
      have v0 := hcm j hjm
      have hrg := HA.out.range _ (getD_memI hjm)
      obtain ⟨u, hu⟩ := Int.eq_ofNat_of_zero_le hrg.1
      rw [hu] at v0 hrg
      have Hu := Lib.hid hu
      have hun : u < A.length := by omega
      have d1 := hrow.cell hun
      obtain ⟨ov, hov⟩ : ∃ ov, wr.cell? ⟨gw, u, none⟩ = some ov := ⟨_, d1⟩
      have d2 := hrow.frozen u
      have Hrow := Lib.hid hrow
      have htI : (j : Int) < A.length := by omega
      have huI : (u : Int) < A.length := by omega
      clear hcm hrg hu d1 hrow hbx hjm
      go_wp2
      go_roundw
      case rel =>
        have hjm : j < m.length := by have := Hml.out; omega
        refine ⟨j + 1, by go_num, by omega, (Hrow.out.set u (.int .i64 j)).congr (fun q _ => ?_), Hbx.out.setCell (p := ⟨gw, u, none⟩) (by rw [Hgw.out]; exact Nat.le_refl _) _⟩
        rw [take_snocI hjm, Hu.out]
        by_cases e : q = u
        · subst e
          have := plc_at HA.out j q hjm Hu.out
          unfold plc at this
          rw [if_pos rfl, if_pos (by simp), this]
        · rw [if_neg e]
          congr 1
          by_cases c : (q : Int) ∈ m.take j
          · rw [if_pos c, if_pos (List.mem_append.2 (.inl c))]
          · rw [if_neg c, if_neg]
            rw [List.mem_append, List.mem_singleton]
            rintro (h | h)
            · exact c h
            · exact e (by omega)
      case measure => simp only [intOf]; omega
    · obtain rfl : A.length = j := by omega
      have h3 : decide (A.length < A.length) = false := by simp
      have hrow' : wr.rowIs gw 3 A.length (fun q => .int .i64 (m.idxOf (q : Int) : Nat)) := hrow.congr (fun q hq => by
        have e : m.take A.length = m := List.take_of_length_le (by rw [Hml.out]; exact Nat.le_refl _)
        rw [e, if_pos (all_in HA.out q hq)])
      have HX := Lib.hid (HMX4.out.below hbx)
      have HY := Lib.hid (HMY.out.below hbx)
      have HM := Lib.hid (Hm4.out.below hbx)
      have Hrow := Lib.hid hrow'
      have Hb := Lib.hid (Hb04.out.trans (hbx.mono Hb04.out.size))
      clear hrow hrow' hbx Hbx HMX4 HMY Hm4 Hb04 HM0
      obtain ⟨ws, hws⟩ : ∃ ws : World, ws = wr := ⟨_, rfl⟩
      subst hws
      go_wp2
      go_loopw [52] (fun i wx => ∃ j q : Nat, i = .int .i64 j ∧ j ≤ A.length ∧ (∀ i' k', i' < j → k' < A.length → ¬ badP A B m i' k') ∧ wx = ws.drewN q) (fun i _ => A.length - (intOf i).toNat)
      case atStart => exact ⟨0, 0, rfl, Nat.zero_le _, fun i' k' h => by omega, rfl⟩
      case round =>
        obtain ⟨j, q, rfl, hj, hgood, rfl⟩ := hrel
        have Hgood := Lib.hid hgood
        clear hgood
        rcases Nat.lt_or_ge j A.length with hlt | hge
        · have hltI : (j : Int) < A.length := by omega
          go_wp2
          go_loopw [57] (fun i wx => ∃ k q : Nat, i = .int .i64 k ∧ k ≤ A.length ∧ (∀ k', k' < k → ¬ badP A B m j k') ∧ wx = ws.drewN q) (fun i _ => A.length - (intOf i).toNat)
          case atStart => exact ⟨0, q, rfl, Nat.zero_le _, fun k' h => by omega, rfl⟩
          case round =>
            obtain ⟨k, q, rfl, hk, hgd, rfl⟩ := hrel
            have Hgd := Lib.hid hgd
            clear hgd
            rcases Nat.lt_or_ge k A.length with hkl | hkl
            · have hklI : (k : Int) < A.length := by omega
              have hkB : k < B.length := by have := HF.out.same; omega
              have hjm : j < m.length := by have := Hml.out; omega
              obtain ⟨bx, ox, cx, x1, hxc⟩ := tab_at HX.out hlt (by omega)
              obtain ⟨by_, oy, cy, y1, hyc⟩ := tab_at HY.out hkB (by omega)
              have w1 := Hrow.out.cell hkl
              have hv : m.idxOf (k : Int) < A.length := by
                have := List.idxOf_lt_length_of_mem (all_in HA.out k hkl)
                rw [Hml.out] at this; exact this
              obtain ⟨bm, om, rfl, hcm⟩ := HM.out.open (by omega)
              have m1 := hcm j hjm
              have hrg := HA.out.range _ (getD_memI hjm)
              obtain ⟨u, hu⟩ := Int.eq_ofNat_of_zero_le hrg.1
              rw [hu] at m1 hrg
              have hul : u < A.length := by omega
              have x2 := hxc k hkl
              have x3 := hxc u hul
              have y2 := hyc j hlt
              have y3 := hyc _ hv
              have hbad : badP A B m j k ↔ plc (A.getD j []) k < plc (A.getD j []) u ∧ plc (B.getD k []) j < plc (B.getD k []) (m.idxOf (k : Int)) := by
                unfold badP
                rw [hu]
                exact Iff.rfl
              generalize plc (A.getD j []) k = p1 at x2 hbad
              generalize plc (A.getD j []) u = p2 at x3 hbad
              generalize plc (B.getD k []) j = p3 at y2 hbad
              generalize plc (B.getD k []) (m.idxOf (k : Int)) = p4 at y3 hbad
              generalize m.idxOf (k : Int) = v at w1 y3 hv
              have huI : (u : Int) < A.length := by omega
              have hvI : (v : Int) < A.length := by omega
              have Hbad := Lib.hid hbad
              clear hxc hyc hcm hu hrg hbad hjm hkB
              rcases Int.lt_or_le p1 p2 with h1 | h1
              · rcases Int.lt_or_le p3 p4 with h2 | h2
                · go_wp2
                  go_quiet (fail)
                  go_wp2
                  go_ret3
                  refine ⟨.inl ⟨HF.out, HA.out, .inr ⟨j, k, _, rfl, ?_, ?_, hlt, hkl, Hbad.out.2 ⟨h1, h2⟩, fun i' k' a1 a2 => ?_⟩⟩, ?_⟩
                  · have := Hb.out.size
                    simp
                    omega
                  · exact heap_alloc_new _ _
                  · rcases a2 with a2 | ⟨rfl, a2⟩
                    · exact Hgood.out i' k' a2 a1
                    · exact Hgd.out k' a2
                  · exact (drewN_below Hb.out _).alloc (by have := Hb.out.size; simp; omega) _
                · have h2' : decide (p3 < p4) = false := by simp; omega
                  go_wp2
                  go_quiet (fail)
                  go_wp2
                  go_roundw
                  case rel =>
                    refine ⟨k + 1, q + nq, by go_num, by omega, fun k' h => ?_, ?_⟩
                    · rcases Nat.lt_or_ge k' k with c | c
                      · exact Hgd.out k' c
                      · obtain rfl : k' = k := by omega
                        rw [Hbad.out]; omega
                    · exact rfl
                  case measure => simp only [intOf]; omega
              · have h1' : decide (p1 < p2) = false := by simp; omega
                go_wp2
                go_quiet (fail)
                go_wp2
                go_roundw
                case rel =>
                  refine ⟨k + 1, q + nq, by go_num, by omega, fun k' h => ?_, ?_⟩
                  · rcases Nat.lt_or_ge k' k with c | c
                    · exact Hgd.out k' c
                    · obtain rfl : k' = k := by omega
                      rw [Hbad.out]; omega
                  · exact rfl
                case measure => simp only [intOf]; omega
            · obtain rfl : A.length = k := by omega
              have h3 : decide (A.length < A.length) = false := by simp
              go_wp2
              go_roundw
              case rel =>
                refine ⟨j + 1, q, by go_num, by omega, fun i' k' h1 h2 => ?_, rfl⟩
                rcases Nat.lt_or_ge i' j with h | h
                · exact Hgood.out i' k' h h2
                · obtain rfl : i' = j := by omega
                  exact Hgd.out k' h2
              case measure => simp only [intOf]; omega
        · obtain rfl : A.length = j := by omega
          have h3 : decide (A.length < A.length) = false := by simp
          go_wp2
          go_ret3
          exact ⟨.inl ⟨HF.out, HA.out, .inl ⟨rfl, fun i k h1 h2 => Hgood.out i k h1 h2⟩⟩, drewN_below Hb.out _⟩
end Go.Proofs.YtomgcfjdmoefgaaDoor
