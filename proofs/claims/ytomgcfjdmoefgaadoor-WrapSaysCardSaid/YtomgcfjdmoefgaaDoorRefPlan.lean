/- WALK: the document's Plan: are pieces one? -/
import Derived.Test.YtomgcfjdmoefgaaDoorRefWrap
namespace Go.Proofs.YtomgcfjdmoefgaaDoor
open Go Go.RowKit SharePlain PackPlain ShareLaw

/-- what Plan tells -/
def RPlanRes (times : List Int) (m : Nat) (l : List Pc) (b : Int) (w : World) (e : Ending) (w' : World) : Prop :=
  ∃ is : Bool, e = .returned (.bool is) ∧ (is = true ↔ WrapPlain.Plan times m l b) ∧ Below w.heap.size w w'
theorem RPlanRes.no {times : List Int} {m : Nat} {l : List Pc} {b : Int} {w w' : World} (h : ¬ WrapPlain.Plan times m l b) (hb : Below w.heap.size w w') : RPlanRes times m l b w (.returned (.bool false)) w' :=
  ⟨false, rfl, ⟨fun e => (Bool.false_ne_true e).elim, fun P => absurd P h⟩, hb⟩
theorem plan_no_clash2 {times : List Int} {m : Nat} {l : List Pc} {b : Int} (P : WrapPlain.Plan times m l b) (k i : Nat) (h1 : k ≠ i) (h2 : i < l.length) (h3 : k < l.length) : ¬ WrapPlain.Clash (l.getD k p0) (l.getD i p0) := by
  rcases Nat.lt_or_ge k i with h | h
  · exact plan_no_clash P k i h h2
  · exact fun c => plan_no_clash P i k (by omega) h3 (clash_symm.1 c)
/-- what the first loop keeps -/
structure RPl (times : List Int) (m : Nat) (l : List Pc) (b : Int) (i : Nat) : Prop where
  fine : ∀ k, k < i → WrapPlain.Fine times.length m b (l.getD k p0)
  apart : ∀ k, k < i → ∀ j, j < l.length → j ≠ k → ¬ WrapPlain.Clash (l.getD k p0) (l.getD j p0)
theorem RPl.all {times : List Int} {m : Nat} {l : List Pc} {b : Int} (h : RPl times m l b l.length) : (∀ p ∈ l, WrapPlain.Fine times.length m b p) ∧ l.Pairwise fun p q => ¬ WrapPlain.Clash p q := by
  refine ⟨fun p hp => ?_, List.pairwise_iff_getElem.2 fun k j hk hj hkj => ?_⟩
  · obtain ⟨k, hk, rfl⟩ := List.mem_iff_getElem.1 hp
    rw [← getD_p l k hk]; exact h.fine k hk
  · rw [← getD_p l k hk, ← getD_p l j hj]
    exact h.apart k hk j hj (by omega)

set_option maxRecDepth 100000 in
set_option maxHeartbeats 4000000 in
theorem rplan_any (times : List Int) (m : Nat) (l : List Pc) (b : Int) (a al : Option Addr) (cap capl : Nat) (w : World) (hx : Ints w a times) (hp : Pcs w al l) (hf : Fine times m) (hl : l.length ≤ 60) (hb : b ≤ 9223372036854775807) :
    Calls Tryd.prog 16 #[.slice a times.length cap, .int .i64 m, .slice al l.length capl, .int .i64 b] w fun e w' => RPlanRes times m l b w e w' := by
  have hs := hf.short
  have r1 := hf.r1
  have r2 := hf.r2
  have hl' : ((l.length : Nat) : Int) ≤ 60 := by omega
  go_enter Tryd.func16, Tryd.ntmps16
  go_wp2
  go_loopw [9] (fun idx wr => ∃ i : Nat, idx = .int .i64 i ∧ i ≤ l.length ∧ RPl times m l b i ∧ Below w.heap.size w wr) (fun i _ => l.length - (intOf i).toNat)
  case atStart => exact ⟨0, rfl, Nat.zero_le _, ⟨fun k hk => by omega, fun k hk => by omega⟩, Below.refl _ _⟩
  case round =>
    obtain ⟨i, rfl, hi, R, hbr⟩ := hrel
    rcases Nat.lt_or_ge i l.length with hlt | hge
    · obtain ⟨bl, off, rfl, hbl, hcl⟩ : ∃ b off, al = some ⟨b, off, none⟩ ∧ b < w.heap.size ∧ ∀ i, i < l.length → PcAt w b (off + i * 4) (l.getD i p0) := by
        rcases hp with h | h
        · rw [h] at hlt; simp at hlt
        · exact h
      have hci := (hcl i hlt).below hbr hbl
      obtain ⟨p, hpe⟩ : ∃ p, l.getD i p0 = p := ⟨_, rfl⟩
      rw [hpe] at hci
      obtain ⟨pm, pj, pf, pt⟩ := p
      obtain ⟨c1, c2, c3, c4⟩ := hci
      have hsz := hbr.size
      have HR := Lib.hid R
      have Hpe := Lib.hid hpe
      have Hmem := Lib.hid (show (⟨pm, pj, pf, pt⟩ : Pc) ∈ l by rw [← hpe, getD_p _ _ hlt]; exact List.getElem_mem _)
      have Hbr := Lib.hid hbr
      clear R hpe hbr
      by_cases hfine : WrapPlain.Fine times.length m b ⟨pm, pj, pf, pt⟩
      · have HF := Lib.hid hfine
        obtain ⟨f1, f2, f3, f4, f5, f6, f7⟩ := hfine
        simp only at f1 f2 f3 f4 f5 f6 f7
        have g2 : pm ≤ (m : Int) - 1 := by omega
        have g4 : pj ≤ (times.length : Int) - 1 := by omega
        go_wp2_with fail
        refine (rin_yes pm 0 ((m : Int) - 1) f1 g2 _).mono ?_
        rintro e w' ⟨rfl, rfl⟩
        go_wp2_with fail
        refine (rin_yes pj 0 ((times.length : Int) - 1) f3 g4 _).mono ?_
        rintro e w' ⟨rfl, rfl⟩
        go_wp2
        obtain ⟨wa, hwa⟩ : ∃ wa, wa = wr.alloc (.cells #[.int .i64 pm, .int .i64 pj, .int .i64 pf, .int .i64 pt] 80) := ⟨_, rfl⟩
        obtain ⟨g, hg⟩ : ∃ g, g = wr.heap.size := ⟨_, rfl⟩
        have hP : Row wa g 80 [pm, pj, pf, pt] := by rw [hwa, hg]; exact heap_alloc_new wr _
        have hwas : wa.heap.size = g + 1 := by rw [hwa, hg]; simp
        have bela : Below w.heap.size w wa := by rw [hwa]; exact Hbr.out.alloc hsz _
        rw [← hg] at hsz ⊢
        rw [← hwa]
        have Hwas := Lib.hid hwas
        have Hbela := Lib.hid bela
        have HP := Lib.hid hP
        clear hwa hg hwas bela hP
        obtain ⟨PP, hPP⟩ : ∃ PP : Pc, PP = ⟨pm, pj, pf, pt⟩ := ⟨_, rfl⟩
        have HPP := Lib.hid hPP
        clear hPP
        go_loopw [11] (fun idx wx => ∃ k : Nat, idx = .int .i64 k ∧ k ≤ l.length ∧ (∀ j, j < k → j ≠ i → ¬ WrapPlain.Clash PP (l.getD j p0)) ∧ Below wa.heap.size wa wx) (fun j _ => l.length - (intOf j).toNat)
        case atStart => exact ⟨0, rfl, Nat.zero_le _, fun j hj => by omega, Below.refl _ _⟩
        case round =>
          obtain ⟨k, rfl, hki, hno, hbx⟩ := hrel
          have hPx := HP.out.below hbx (by have := Hwas.out; omega)
          have d1 := hPx.cell 0 (by simp)
          have d2 := hPx.cell 1 (by simp)
          have d3 := hPx.cell 2 (by simp)
          have d4 := hPx.cell 3 (by simp)
          simp only [List.getD_cons_zero, List.getD_cons_succ] at d1 d2 d3 d4
          have hglt := hPx.lt
          have Hno := Lib.hid hno
          have hbq := Hbela.out.trans (hbx.mono (B' := w.heap.size) (by have := Hwas.out; omega))
          have Hbx := Lib.hid hbx
          have Hbq := Lib.hid hbq
          clear hPx hno hbx
          rcases Nat.lt_or_ge k l.length with hlt2 | hge2
          · have hq := (hcl k hlt2).below hbq hbl
            obtain ⟨q, hqe⟩ : ∃ q, l.getD k p0 = q := ⟨_, rfl⟩
            rw [hqe] at hq
            have Hqe := Lib.hid hqe
            clear hqe hbq
            obtain ⟨qm, qj, qf, qt⟩ := q
            obtain ⟨e1, e2, e3, e4⟩ := hq
            have hgb : ¬ bl = g := by omega
            clear c1 c2 c3 c4
            have hk2 : (k : Int) < (l.length : Int) := by omega
            by_cases hik : i = k
            · have hne : ((i : Int) != (k : Int)) = false := by rw [bne_eq_false_iff_eq]; omega
              have Hik := Lib.hid hik
              clear hik
              go_wp2
              go_roundw
              case rel =>
                refine ⟨k + 1, by go_num, by omega, fun j hj hji => ?_, Hbx.out.alloc Hbx.out.size _⟩
                exact Hno.out j (by have := Hik.out; omega) hji
              case measure => simp only [intOf]; omega
            · have hne : ((i : Int) != (k : Int)) = true := by rw [bne_iff_ne]; omega
              have Hik := Lib.hid hik
              clear hik
              go_wp2
              all_goals first
                | (refine ⟨⟨k + 1, by first | go_num | omega, by omega, fun j hj hji => ?_, Hbx.out.alloc Hbx.out.size _⟩, by simp only [intOf]; omega⟩
                   rcases Nat.lt_or_ge j k with h | h
                   · exact Hno.out j h hji
                   · obtain rfl : j = k := by omega
                     show ¬ WrapPlain.Clash PP (l.getD j p0)
                     rw [Hqe.out, HPP.out]
                     unfold WrapPlain.Clash WrapPlain.Meet
                     simp only
                     omega)
                | skip
              all_goals
                go_ret
                refine RPlanRes.no (fun P => ?_) (Hbq.out.alloc Hbq.out.size _)
                refine plan_no_clash2 P i k Hik.out hlt2 hlt ?_
                rw [Hqe.out, Hpe.out]
                unfold WrapPlain.Clash WrapPlain.Meet
                simp only
                omega
          · obtain rfl : l.length = k := by omega
            have h3 : decide (l.length < l.length) = false := by simp
            clear c1 c2 c3 c4 d1 d2 d3 d4 hbq
            go_wp2
            go_roundw
            case rel =>
              refine ⟨i + 1, by go_num, by omega, ⟨fun k hk => ?_, fun k hk j hj hjk => ?_⟩, Hbq.out⟩
              · rcases Nat.lt_or_ge k i with h | h
                · exact HR.out.fine k h
                · obtain rfl : k = i := by omega
                  rw [Hpe.out]; exact HF.out
              · rcases Nat.lt_or_ge k i with h | h
                · exact HR.out.apart k h j hj hjk
                · obtain rfl : k = i := by omega
                  rw [Hpe.out, ← HPP.out]
                  exact Hno.out j hj hjk
            case measure => simp only [intOf]; omega
      · have Hfine := Lib.hid hfine
        have HN := Lib.hid (fun W (hb : Below w.heap.size w W) => RPlanRes.no (times := times) (m := m) (l := l) (b := b) (w' := W) (fun P => Hfine.out (P.fine _ Hmem.out)) hb)
        have Hb1 := Lib.hid (fun o => Hbr.out.alloc hsz o)
        by_cases h1 : pm < 0 ∨ (m : Int) - 1 < pm
        · have H1 := Lib.hid h1
          clear h1 hfine
          go_wp2_with (go_at_call 55; refine (rin_no pm 0 ((m : Int) - 1) H1.out _).mono ?_; rintro e w' ⟨rfl, rfl⟩)
          go_ret
          exact HN.out _ (Hb1.out _)
        · have p1 : 0 ≤ pm := by omega
          have p2 : pm ≤ (m : Int) - 1 := by omega
          by_cases h2 : pj < 0 ∨ (times.length : Int) - 1 < pj
          · have H2 := Lib.hid h2
            clear h1 h2 hfine
            go_wp2_with fail
            refine (rin_yes pm 0 ((m : Int) - 1) p1 p2 _).mono ?_
            rintro e w' ⟨rfl, rfl⟩
            go_wp2_with fail
            refine (rin_no pj 0 ((times.length : Int) - 1) H2.out _).mono ?_
            rintro e w' ⟨rfl, rfl⟩
            go_wp2
            go_ret
            exact HN.out _ (Hb1.out _)
          · have p3 : 0 ≤ pj := by omega
            have p4 : pj ≤ (times.length : Int) - 1 := by omega
            have h3 : pf < 0 ∨ pt ≤ pf ∨ b < pt := by
              by_cases d1 : pf < 0
              · exact .inl d1
              · by_cases d2 : pt ≤ pf
                · exact .inr (.inl d2)
                · refine .inr (.inr ?_)
                  rcases Int.lt_or_le b pt with d3 | d3
                  · exact d3
                  · refine absurd ?_ hfine
                    unfold WrapPlain.Fine
                    simp only
                    omega
            clear h1 h2 hfine
            rcases Int.lt_or_le pf 0 with d1 | d1
            · clear h3
              go_wp2_with fail
              refine (rin_yes pm 0 ((m : Int) - 1) p1 p2 _).mono ?_
              rintro e w' ⟨rfl, rfl⟩
              go_wp2_with fail
              refine (rin_yes pj 0 ((times.length : Int) - 1) p3 p4 _).mono ?_
              rintro e w' ⟨rfl, rfl⟩
              go_wp2
              go_ret
              exact HN.out _ (Hb1.out _)
            · rcases Int.lt_or_le pf pt with d2 | d2
              · have d3 : b < pt := by omega
                clear h3
                go_wp2_with fail
                refine (rin_yes pm 0 ((m : Int) - 1) p1 p2 _).mono ?_
                rintro e w' ⟨rfl, rfl⟩
                go_wp2_with fail
                refine (rin_yes pj 0 ((times.length : Int) - 1) p3 p4 _).mono ?_
                rintro e w' ⟨rfl, rfl⟩
                go_wp2
                go_ret
                exact HN.out _ (Hb1.out _)
              · clear h3
                go_wp2_with fail
                refine (rin_yes pm 0 ((m : Int) - 1) p1 p2 _).mono ?_
                rintro e w' ⟨rfl, rfl⟩
                go_wp2_with fail
                refine (rin_yes pj 0 ((times.length : Int) - 1) p3 p4 _).mono ?_
                rintro e w' ⟨rfl, rfl⟩
                go_wp2
                go_ret
                exact HN.out _ (Hb1.out _)
    · obtain rfl : l.length = i := by omega
      obtain ⟨hFine, hApart⟩ := R.all
      have h3 : decide (l.length < l.length) = false := by simp
      have Hbr := Lib.hid hbr
      have HFine := Lib.hid hFine
      have HApart := Lib.hid hApart
      clear R hFine hApart
      go_wp2
      go_loopw [13] (fun idx wx => ∃ k : Nat, idx = .int .i64 k ∧ k ≤ times.length ∧ (∀ j, j < k → WrapPlain.done j l = times.getD j 0) ∧ Below w.heap.size w wx) (fun i _ => times.length - (intOf i).toNat)
      case atStart => exact ⟨0, rfl, Nat.zero_le _, fun j hj => by omega, Hbr.out⟩
      case round =>
        obtain ⟨k, rfl, hk, hall, hbx⟩ := hrel
        have Hall := Lib.hid hall
        clear hall
        rcases Nat.lt_or_ge k times.length with hlt | hge2
        · obtain ⟨bt, ot, rfl, hct⟩ := (hx.below hbx).open (by omega)
          have hctk := hct k hlt
          have htk := hf.all _ (getD_mem times k hlt)
          clear hct
          generalize hT : times.getD k 0 = tk at hctk htk
          have HT := Lib.hid hT
          have Hbx := Lib.hid hbx
          clear hT hbx
          go_wp2
          go_loopw [14, 15] (fun left idx wy => ∃ (i : Nat) (v : Int), idx = .int .i64 i ∧ left = .int .i64 v ∧ i ≤ l.length ∧ v = tk - WrapPlain.done k (l.take i) ∧ 0 ≤ v ∧ v ≤ 1000 ∧ Below w.heap.size w wy) (fun _ i _ => l.length - (intOf i).toNat)
          case atStart => exact ⟨0, tk, rfl, rfl, Nat.zero_le _, by simp [WrapPlain.done], by omega, by omega, Hbx.out⟩
          case round =>
            obtain ⟨i, v, rfl, rfl, hi2, hv, hv0, hv1, hby⟩ := hrel
            have Hv := Lib.hid hv
            clear hv
            rcases Nat.lt_or_ge i l.length with hlt2 | hge3
            · obtain ⟨bl, off, rfl, hbl, hcl⟩ : ∃ b off, al = some ⟨b, off, none⟩ ∧ b < w.heap.size ∧ ∀ i, i < l.length → PcAt w b (off + i * 4) (l.getD i p0) := by
                rcases hp with h | h
                · rw [h] at hlt2; simp at hlt2
                · exact h
              have hci := (hcl i hlt2).below hby hbl
              have hfi := HFine.out (l.getD i p0) (by rw [getD_p _ _ hlt2]; exact List.getElem_mem _)
              have hdn : WrapPlain.done k (l.take (i + 1)) = WrapPlain.done k (l.take i) + (if (l.getD i p0).j = k then WrapPlain.len (l.getD i p0) else 0) := by
                rw [take_getD _ _ hlt2, done_append]
                simp only [WrapPlain.done]; omega
              obtain ⟨p, hpe⟩ : ∃ p, l.getD i p0 = p := ⟨_, rfl⟩
              rw [hpe] at hci hfi hdn
              obtain ⟨pm, pj, pf, pt⟩ := p
              obtain ⟨c1, c2, c3, c4⟩ := hci
              obtain ⟨f1, f2, f3, f4, f5, f6, f7⟩ := hfi
              simp only [WrapPlain.len] at f1 f2 f3 f4 f5 f6 f7 hdn
              have Hdn := Lib.hid hdn
              have Hby := Lib.hid hby
              have hi3 : (i : Int) < (l.length : Int) := by omega
              clear hdn hcl hby hpe
              by_cases hj : pj = (k : Int)
              · have hje : (pj == (k : Int)) = true := by rw [hj]; exact beq_self_eq_true _
                have Hj := Lib.hid hj
                clear hj
                rcases Int.lt_or_le v (pt - pf) with h | h
                · go_wp2
                  go_quiet (fail)
                  go_wp2
                  go_ret
                  refine RPlanRes.no (fun P => ?_) (drewN_below Hby.out _)
                  have h1 := plan_done_le P (i + 1) k hlt
                  rw [Hdn.out, if_pos Hj.out, HT.out] at h1
                  have := Hv.out
                  omega
                · go_wp2
                  go_quiet (fail)
                  go_wp2
                  go_quiet (fail)
                  go_wp2
                  go_roundw
                  case rel => exact ⟨i + 1, v - (pt - pf), by go_num, rfl, by omega, by rw [Hdn.out, if_pos Hj.out]; have := Hv.out; omega, by omega, by omega, by first | exact drewN_below Hby.out _ | exact drewN_below (drewN_below Hby.out _) _⟩
                  case measure => simp only [intOf]; omega
              · have hje : (pj == (k : Int)) = false := by rw [beq_eq_false_iff_ne]; exact hj
                have Hj := Lib.hid hj
                clear hj
                go_wp2
                go_roundw
                case rel => exact ⟨i + 1, v, by go_num, rfl, by omega, by rw [Hdn.out, if_neg Hj.out]; have := Hv.out; omega, hv0, hv1, Hby.out⟩
                case measure => simp only [intOf]; omega
            · obtain rfl : l.length = i := by omega
              have hdn : v = tk - WrapPlain.done k l := by have := Hv.out; rwa [List.take_length] at this
              have Hdn := Lib.hid hdn
              clear hdn
              by_cases h0 : v = 0
              · subst h0
                go_wp2
                go_roundw
                case rel =>
                  refine ⟨k + 1, by go_num, by omega, fun j hj => ?_, hby⟩
                  rcases Nat.lt_or_ge j k with h | h
                  · exact Hall.out j h
                  · obtain rfl : j = k := by omega
                    rw [HT.out]; have := Hdn.out; omega
                case measure => simp only [intOf]; omega
              · have hne : (v != 0) = true := by rw [bne_iff_ne]; exact h0
                have H0 := Lib.hid h0
                clear h0
                go_wp2
                go_ret
                refine RPlanRes.no (fun P => H0.out ?_) hby
                have := P.all k hlt
                rw [HT.out] at this
                have := Hdn.out
                omega
        · obtain rfl : times.length = k := by omega
          have h4 : decide (times.length < times.length) = false := by simp
          go_wp2
          go_ret
          exact ⟨true, rfl, ⟨fun _ => ⟨HFine.out, HApart.out, Hall.out⟩, fun _ => rfl⟩, hbx⟩
end Go.Proofs.YtomgcfjdmoefgaaDoor
