/- WALK: wed.Match at two sides as they should be. -/
import Derived.Test.YtomgcfjdmoefgaaDoorWedMatch2
import Derived.Test.YtomgcfjdmoefgaaDoorWedStable
import Derived.Deep.MidRow
import Derived.Laws.EntriesVeiled
namespace Go.Proofs.YtomgcfjdmoefgaaDoor
open Go Go.RowKit WedPlain

/-- what Match tells -/
def MatchRes (A B : List (List Int)) (w : World) (e : Ending) (w' : World) : Prop :=
  ∃ asked has, Inv A.length (aOf A) (xOf A) (xOf B) asked has [] ∧ (∃ g, e = .returned (.tuple #[.slice (some ⟨g, 0, none⟩) A.length A.length, .nilIface]) ∧ w.heap.size ≤ g ∧ w'.rowIs g 3 A.length (fun i => .int .i64 (outOf (aOf A) asked i))) ∧ Below w.heap.size w w'
set_option maxRecDepth 100000 in
set_option maxHeartbeats 600000 in
theorem Match_yes (A B : List (List Int)) (a b : Option Addr) (cap cap' : Nat) (w : World) (hx : Mat w a A) (hy : Mat w b B) (hf : FineW A B) :
    Calls Tryd.prog 30 #[.slice a A.length cap, .slice b B.length cap'] w fun e w' => MatchRes A B w e w' := by
  have hsm := hf.same
  have hsh := hf.short
  have hC' := CheckW_any A B a b cap cap' w hx hy (by omega) (by omega)
  have Hsm := Lib.hid hsm
  rw [hsm] at hC'
  rw [hsm]
  have hC := Lib.hid hC'
  clear hC'
  have hmk := fun w => run_make_row' (P := Tryd.prog) 22 3 (.int .i64 0) 8 Tryd.underlying22 (by kernel_rfl) rfl .i64 .i64 A.length (by omega) (by omega) w
  clear hsm
  go_enter Tryd.func30, Tryd.ntmps30
  go_wp2_with fail
  refine hC.out.mono ?_
  rintro e w1 ⟨⟨rfl, hF⟩ | ⟨k, hk, rfl, hF⟩, hb⟩
  rotate_left
  · exact absurd hf hF
  clear hF
  have hP' := places_any B A.length b cap' w1 (hy.below hb) hf.b (by omega) (by rw [Hsm.out]; omega)
  rw [Hsm.out] at hP'
  have hP := Lib.hid hP'
  clear hP'
  go_wp2_with fail
  refine hP.out.mono ?_
  rintro e w2 ⟨T, rfl, hT, hMat, hb2⟩
  rw [Hsm.out]
  have hb02 := hb.trans (hb2.mono hb.size)
  clear hP hC
  go_wp2_with fail
  refine (NewHeap_any _).mono ?_
  rintro e w3 ⟨rfl, hw3⟩
  have hs3 : (((w2.alloc (.cells (madeCells #[.int .i64 0] A.length) 3)).alloc (.cells (madeCells #[.int .i64 0] A.length) 3)).alloc (.cells #[.slice none 0 0, .nilFunc] 88)).heap.size = w2.heap.size + 1 + 1 + 1 := by simp
  have hH : w3.heap[w2.heap.size + 1 + 1]? = some (.cells #[.slice none 0 0, .nilFunc] 88 (0, 0)) := by
    rw [hw3, Below.heap_alloc _ _ _ (by simp)]
    have := heap_alloc_new ((w2.alloc (.cells (madeCells #[.int .i64 0] A.length) 3)).alloc (.cells (madeCells #[.int .i64 0] A.length) 3)) (.cells #[.slice none 0 0, .nilFunc] 88)
    rw [show ((w2.alloc (.cells (madeCells #[.int .i64 0] A.length) 3)).alloc (.cells (madeCells #[.int .i64 0] A.length) 3)).heap.size = w2.heap.size + 1 + 1 by simp] at this
    exact this
  have hN : w3.heap[w2.heap.size + 1 + 1 + 1]? = some (.cells #[.slice none 0 0, .func (.func 69) #[] #[]] 88 (0, 0)) := by
    rw [hw3, ← hs3]
    exact heap_alloc_new _ _
  have k0 : w3.cell? ⟨w2.heap.size + 1 + 1, 0, none⟩ = some (.slice none 0 0) := by simp [World.cell?, hH]
  have k1 : w3.cell? ⟨w2.heap.size + 1 + 1, 1, none⟩ = some .nilFunc := by simp [World.cell?, hH]
  have k2 : w3.frozen? ⟨w2.heap.size + 1 + 1, 0, none⟩ = false := by simp [World.frozen?, hH]
  have k3 : w3.frozen? ⟨w2.heap.size + 1 + 1, 1, none⟩ = false := by simp [World.frozen?, hH]
  have k4 : w3.cell? ⟨w2.heap.size + 1 + 1 + 1, 0, none⟩ = some (.slice none 0 0) := by simp [World.cell?, hN]
  have k5 : w3.cell? ⟨w2.heap.size + 1 + 1 + 1, 1, none⟩ = some (.func (.func 69) #[] #[]) := by simp [World.cell?, hN]
  have hM0 := MatchW.begin A.length w2 w3 hw3
  have HM0 := Lib.hid hM0
  rw [hs3]
  have Hthere : Hid (w3.there (w2.heap.size + 1 + 1) 0 2) := Lib.hid (fun j hj => by
    have : j = 0 ∨ j = 1 := by omega
    rcases this with rfl | rfl
    · rw [Nat.add_zero, k0]; exact ⟨rfl, k2⟩
    · rw [Nat.zero_add, k1]; exact ⟨rfl, k3⟩)
  clear hH hN hw3 hs3 hM0
  go_wp2
  clear Hthere k0 k1 k2 k3 k4 k5
  generalize (w3.setCell ⟨w2.heap.size + 1 + 1, 0, none⟩ (.slice none 0 0)).setCell ⟨w2.heap.size + 1 + 1, 1, none⟩ (.func (.func 69) #[] #[]) = w4 at HM0 ⊢
  have Hmk := Lib.hid hmk
  clear hmk
  obtain ⟨ga, hga⟩ : ∃ g, g = w2.heap.size := ⟨_, rfl⟩
  rw [← hga] at HM0 ⊢
  have Hga := Lib.hid hga
  have Hb02 := Lib.hid hb02
  have HMat := Lib.hid hMat
  have Hb := Lib.hid hb
  have Hb2 := Lib.hid hb2
  have Hx := Lib.hid hx
  have Hy := Lib.hid hy
  have Hf := Lib.hid hf
  have HT := Lib.hid hT
  clear hga hb02 hMat hb hb2 hx hy hf hT
  go_wp2
  go_loopw [37] (fun i wr => ∃ (k : Nat) (ah : Option Addr) (ch : Nat) (l : List Int) (has : Nat → Int), i = .int .i64 k ∧ k ≤ A.length ∧ l.Perm ((List.range k).map fun i : Nat => (i : Int)) ∧ (∀ q, q < k → has q = -1) ∧ MatchW A.length w2 ga (fun _ => 0) has ah ch l wr) (fun i _ => A.length - (intOf i).toNat)
  case atStart => exact ⟨0, none, 0, [], _, rfl, Nat.zero_le _, by simp, fun q hq => by omega, HM0.out⟩
  case round =>
    obtain ⟨k, ah, ch, l, has, rfl, hk, hp, hh, hM⟩ := hrel
    have hlen : l.length = k := by rw [hp.length_eq]; simp
    have Hp := Lib.hid hp
    have Hh := Lib.hid hh
    rcases Nat.lt_or_ge k A.length with hlt | hge
    · have hltI : (k : Int) < A.length := by omega
      have hM1 := hM.setHas k (-1)
      have hPu := Push_any l (k : Int) ah ch (ga + 1 + 1) (ga + 1 + 1) _ hM1.heap (by omega) (by have := hM1.size; omega)
      have hfr := hM.has.frozen k
      have hce := hM.has.cell hlt
      obtain ⟨ov, hov⟩ : ∃ ov, wr.cell? ⟨ga + 1, k, none⟩ = some ov := ⟨_, hce⟩
      have HPu := Lib.hid hPu
      have HM1 := Lib.hid hM1
      clear hce hPu hM1 hp hh hlen hM
      go_wp2_with fail
      refine HPu.out.mono ?_
      rintro e w5 ⟨rfl, a', cap', l', hp', hH', hO, _⟩
      have HR := Lib.hid (And.intro (push_range hp' Hp.out) (HM1.out.only hO hH'))
      clear hp' hH' hO HPu HM1
      go_wp2
      go_roundw
      case rel =>
        refine ⟨k + 1, a', cap', l', upI has k (-1), by go_num, by omega, HR.out.1, fun q hq => ?_, HR.out.2⟩
        by_cases e : q = k
        · subst e; rw [upI_same]
        · rw [upI_other _ _ _ _ e]; exact Hh.out q (by omega)
      case measure => simp only [intOf]; omega
    · obtain rfl : A.length = k := by omega
      have hI := Inv.start A.length (aOf A) (xOf A) (xOf B) has (List.range A.length) (List.Perm.refl _) hh
      have HI := Lib.hid hI
      have HM := Lib.hid hM
      have h3 : decide (A.length < A.length) = false := by simp
      clear hI hp hh hM hlen
      go_wp2
      go_loopg [12] (A.length * A.length) (fun gk v wx => ∃ (asked : Nat → Nat) (has : Nat → Int) (ah : Option Addr) (ch : Nat) (l : List Int) (free : List Nat), gk + tot asked A.length = A.length * A.length ∧ l.Perm (free.map fun i : Nat => (i : Int)) ∧ Inv A.length (aOf A) (xOf A) (xOf B) asked has free ∧ MatchW A.length w2 ga asked has ah ch l wx)
      case atStart => exact ⟨fun _ => 0, has, ah, ch, l, List.range A.length, by rw [tot_zero]; rfl, Hp.out, HI.out, HM.out⟩
      case round =>
        clear HI HM Hp Hh has ah ch l HM0
        obtain ⟨asked, has, ah, ch, l, free, hg, hp, hI, hM⟩ := hrel
        have hfl := nodup_len hI.nodup (fun i hi => (hI.free_ i hi).1)
        have hll : l.length ≤ 8 := by rw [hp.length_eq, List.length_map]; omega
        have hLn := Len_any l ah ch (ga + 1 + 1) (ga + 1 + 1) wr hM.heap (by omega)
        have HLn := Lib.hid hLn
        have HI := Lib.hid hI
        have HM := Lib.hid hM
        have Hp := Lib.hid hp
        have Hg := Lib.hid hg
        clear hLn hI hM hg hp
        rcases Nat.eq_zero_or_pos l.length with h0 | h0
        · have h0D : decide ((0 : Int) < l.length) = false := decide_eq_false (by omega)
          have h0N : decide (0 < l.length) = false := decide_eq_false (by omega)
          have hfree : free = [] := by
            have e1 := Hp.out.length_eq
            rw [List.length_map] at e1
            exact List.eq_nil_of_length_eq_zero (by omega)
          have hI0 := HI.out
          rw [hfree] at hI0
          have HI0 := Lib.hid hI0
          have hmk := Hmk.out
          have hbw := Hb02.out.trans (HM.out.bel.mono Hb02.out.size)
          obtain ⟨go, hgo⟩ : ∃ go, go = wr.heap.size := ⟨_, rfl⟩
          have hrow0 := World.rowIs_made wr (.int .i64 0) A.length 3
          rw [← hgo] at hrow0
          have Hrow0 := Lib.hid hrow0
          have Hbw := Lib.hid hbw
          have Hgo := Lib.hid hgo
          have hgag : ga + 1 < go := by have := HM.out.size; omega
          clear h0 hfree hI0 HI hrow0 hbw Hp Hg hfl hll
          go_wp2_with fail
          refine HLn.out.mono ?_
          rintro e w5 ⟨rfl, rfl⟩
          go_wp2
          rw [← hgo]
          clear hgo
          go_loopw [105] (fun i wx => ∃ (k : Nat) (f : Nat → Int), i = .int .i64 k ∧ k ≤ A.length ∧ wx.rowIs go 3 A.length (fun q => .int .i64 (f q)) ∧ (∀ q, q < A.length → outOf (aOf A) asked q < k → f q = (outOf (aOf A) asked q : Nat)) ∧ wx.rowIs (ga + 1) 3 A.length (fun k => .int .i64 (has k)) ∧ Below w.heap.size w wx) (fun i _ => A.length - (intOf i).toNat)
          case atStart => exact ⟨0, fun _ => 0, rfl, Nat.zero_le _, Hrow0.out, fun q _ h => absurd h (Nat.not_lt_zero _), HM.out.has.alloc _, Hbw.out.alloc Hbw.out.size _⟩
          case round =>
            obtain ⟨k, f, rfl, hk, hrow, hf, hhas, hbx⟩ := hrel
            rcases Nat.lt_or_ge k A.length with hlt | hge
            · obtain ⟨i, hin, hki, ho⟩ := full_of HI0.out (lists_of Hf.out.a rfl) hlt
              have v1 := hhas.cell hlt
              rw [hki] at v1
              have v2 := hrow.cell hin
              obtain ⟨ov, hov⟩ : ∃ ov, wr.cell? ⟨go, i, none⟩ = some ov := ⟨_, v2⟩
              have v3 := hrow.frozen i
              have hltI : (k : Int) < A.length := by omega
              have hinI : (i : Int) < A.length := by omega
              have Hrow := Lib.hid hrow
              have HF2 := Lib.hid hf
              have Hhas := Lib.hid hhas
              have Hbx := Lib.hid hbx
              have Hki := Lib.hid hki
              have Ho := Lib.hid ho
              clear v2 hrow hf hhas hbx hki ho
              go_wp2
              go_roundw
              case rel =>
                refine ⟨k + 1, upI f i k, by go_num, by omega, (Hrow.out.set i (.int .i64 k)).congr (fun q _ => by unfold upI; split <;> rfl), fun q hq hqk => ?_, Hhas.out.setOther (by show ga + 1 ≠ go; omega) _, Hbx.out.setCell (p := ⟨go, i, none⟩) (by have := Hgo.out; have := Hbw.out.size; show w.heap.size ≤ go; omega) _⟩
                by_cases e : q = i
                · subst e; rw [upI_same, Ho.out]
                · rw [upI_other _ _ _ _ e]
                  refine HF2.out q hq ?_
                  rcases Nat.lt_or_ge (outOf (aOf A) asked q) k with c | c
                  · exact c
                  · exfalso
                    have e2 : outOf (aOf A) asked q = k := by omega
                    have := (HI0.out.hold (lists_of Hf.out.a rfl) hq).2.2.1
                    rw [e2, Hki.out] at this
                    omega
              case measure => simp only [intOf]; omega
            · obtain rfl : A.length = k := by omega
              have h3 : decide (A.length < A.length) = false := by simp
              have hrow' := hrow.congr (g := fun i => .int .i64 (outOf (aOf A) asked i)) (fun q hq => by rw [hf q hq (HI0.out.hold (lists_of Hf.out.a rfl) hq).2.1])
              have Hrow := Lib.hid hrow'
              have Hbx := Lib.hid hbx
              clear hrow hrow' hf hhas hbx
              go_wp2
              go_ret2
              exact ⟨asked, has, HI0.out, ⟨go, rfl, by have := Hgo.out; have := Hbw.out.size; omega, Hrow.out⟩, Hbx.out⟩
        · have hPop := Pop_any l ah ch (ga + 1 + 1) (ga + 1 + 1) wr HM.out.heap (by omega) h0
          have HPop := Lib.hid hPop
          have h0I : (0 : Int) < l.length := by omega
          clear hPop
          go_wp2_with fail
          refine HLn.out.mono ?_
          rintro e w5 ⟨rfl, rfl⟩
          go_wp2_with fail
          refine HPop.out.mono ?_
          rintro e w6 ⟨rfl, l', hl', hH', hO'⟩
          obtain ⟨i, rest, hz, hfr, hlr⟩ := pop_free hl' Hp.out
          rw [hz]
          have hM6 := HM.out.only hO' hH'
          have HM6 := Lib.hid hM6
          have Hfr := Lib.hid hfr
          have Hlr := Lib.hid hlr
          clear hM6 hfr hlr hz hl' hH' hO' HLn HPop HM
          have hL := lists_of (Hf.out.a) rfl
          have hif : i ∈ free := Hfr.out.mem_iff.2 (by simp)
          have hin := (HI.out.free_ i hif).1
          have hroom := HI.out.room hL hif
          have hbw := Hb02.out.trans (HM6.out.bel.mono (by have := Hb02.out.size; have := Hga.out; omega))
          obtain ⟨ba, oa, rfl, _, hca⟩ := (Hx.out.below hbw).open (by omega)
          obtain ⟨ai, ci, c1, c2, _⟩ := hca i hin
          rw [(Hf.out.a i hin).len] at c1
          obtain ⟨bi, oi, rfl, hci⟩ := c2.open (by rw [(Hf.out.a i hin).len]; omega)
          have c3 := hci (asked i) (by rw [(Hf.out.a i hin).len]; omega)
          obtain ⟨e1, hkn⟩ := aOf_cast Hf.out.a hin hroom
          rw [e1] at c3
          obtain ⟨k, hk⟩ : ∃ k, aOf A i (asked i) = k := ⟨_, rfl⟩
          rw [hk] at c3 hkn
          have d1 := HM6.out.asked.cell hin
          have d2 := HM6.out.asked.frozen i
          have d3 := HM6.out.has.cell hkn
          have d4 := HM6.out.has.frozen k
          have n1 : ¬ ga + 1 = ga := by omega
          have n2 : ¬ ga = ga + 1 := by omega
          have hroomI : (asked i : Int) < A.length := by omega
          have hinI : (i : Int) < A.length := by omega
          have hknI : (k : Int) < A.length := by omega
          have HL := Lib.hid hL
          have Hk := Lib.hid hk
          have Hif := Lib.hid hif
          have hone := HI.out.one k hkn
          clear hL hif hbw hca c2 hci e1 hk h0
          go_wp2
          go_quiet (fail)
          have HM7 := Lib.hid (HM6.out.drewN nq)
          have z1 : (w6.drewN nq).cell? ⟨ga, i, none⟩ = some (.int .i64 (asked i)) := d1
          have z2 : (w6.drewN nq).frozen? ⟨ga, i, none⟩ = false := d2
          have z3 : (w6.drewN nq).cell? ⟨ga + 1, k, none⟩ = some (.int .i64 (has k)) := d3
          have z4 : (w6.drewN nq).frozen? ⟨ga + 1, k, none⟩ = false := d4
          clear d1 d2 d3 d4 c1 c3 HM6
          generalize w6.drewN nq = w7 at HM7 z1 z2 z3 z4 ⊢
          have HM8 : Hid (MatchW A.length w2 ga (up asked i (asked i + 1)) has ah ch l' (w7.setCell ⟨ga, i, none⟩ (.int .i64 ((asked i : Int) + 1)))) := Lib.hid (HM7.out.setAsked i (asked i + 1))
          have hlast : tot asked A.length + 1 ≤ A.length * A.length := by
            have h1 := tot_up asked A.length i hin
            have h2 : ∀ q, q < A.length → up asked i (asked i + 1) q ≤ A.length := fun q hq => by
              by_cases e : q = i
              · subst e; rw [up_same]; omega
              · rw [up_other _ _ _ _ e]; exact HI.out.le q hq
            have h3 := tot_le _ A.length A.length h2
            omega
          have hgk : 0 < gk := by have := Hg.out; omega
          have Hg2 : Hid (gk - 1 + tot (up asked i (asked i + 1)) A.length = A.length * A.length) := Lib.hid (by
            rw [tot_up asked A.length i hin]
            have := Hg.out
            omega)
          clear hlast
          have hl8 : l'.length ≤ 8 := by
            have e1 := Hlr.out.length_eq
            rw [List.length_map] at e1
            have e2 := Hfr.out.length_eq
            rw [List.length_cons] at e2
            omega
          rcases hone with hone | ⟨j, hone, hjn, _⟩
          · have HT1 := Lib.hid (HI.out.take HL.out Hfr.out Hk.out (.inl ⟨hone, rfl⟩))
            rw [hone] at z3
            clear hone
            go_wp2
            go_roundg (gk - 1)
            case measure => omega
            case rel => exact ⟨up asked i (asked i + 1), upI has k i, ah, ch, l', rest, Hg2.out, Hlr.out, HT1.out, HM8.out.setHas k i⟩
          · rw [hone] at z3
            have Hone := Lib.hid hone
            clear hone
            have hjnI : (j : Int) < A.length := by omega
            go_wp2
            have hMB := HMat.out.below HM8.out.bel
            have hkB : k < B.length := by have := Hsm.out; omega
            obtain ⟨by_, oy, cy, y1, hyc⟩ := tab_at hMB hkB (by omega)
            have y2 := hyc i hin
            have y3 := hyc j hjn
            rw [plc_xOf] at y2 y3
            have z5 := HM8.out.has.frozen k
            have z6 := HM8.out.has.cell hkn
            rw [Hone.out] at z6
            clear z1 z2 z3 z4 hMB hyc HM7
            generalize w7.setCell ⟨ga, i, none⟩ (.int .i64 ((asked i : Int) + 1)) = w8 at HM8 y1 y2 y3 z5 z6 ⊢
            rcases Nat.lt_or_ge (xOf B k i) (xOf B k j) with hlt | hge
            · have HT1 := Lib.hid (HI.out.take (free' := j :: rest) HL.out Hfr.out Hk.out (.inr ⟨j, Hone.out, hlt, List.Perm.refl _⟩))
              generalize xOf B k i = p1 at y2 hlt
              generalize xOf B k j = p2 at y3 hlt
              have hltI : (p1 : Int) < p2 := by omega
              go_quiet (fail)
              have hM9 := (HM8.out.drewN nq).setHas k i
              have hPu := Push_any l' (j : Int) ah ch (ga + 1 + 1) (ga + 1 + 1) _ hM9.heap (by omega) (by have := hM9.size; omega)
              have HM9 := Lib.hid hM9
              have HPu := Lib.hid hPu
              clear hM9 hPu
              go_wp2_with fail
              refine HPu.out.mono ?_
              rintro e w10 ⟨rfl, a', cap', l2, hp', hH', hO, _⟩
              have HR := Lib.hid (And.intro (push_free hp' Hlr.out) (HM9.out.only hO hH'))
              clear hp' hH' hO HPu HM9
              go_wp2
              go_roundg (gk - 1)
              case measure => omega
              case rel => exact ⟨up asked i (asked i + 1), upI has k i, a', cap', l2, j :: rest, Hg2.out, HR.out.1, HT1.out, HR.out.2⟩
            · have HT1 := Lib.hid (HI.out.keep (free' := i :: rest) HL.out Hfr.out Hk.out Hone.out hge (fun p q hp hq e => xOf_inj Hf.out.b Hsm.out hkn hp hq e) (List.Perm.refl _))
              generalize xOf B k i = p1 at y2 hge
              generalize xOf B k j = p2 at y3 hge
              have hgeI : (p2 : Int) ≤ p1 := by omega
              have hgeD : decide ((p1 : Int) < p2) = false := by simp; omega
              have hgeN : decide (p1 < p2) = false := by simp; omega
              go_quiet (fail)
              have hM9 := HM8.out.drewN nq
              have hPu := Push_any l' (i : Int) ah ch (ga + 1 + 1) (ga + 1 + 1) _ hM9.heap (by omega) (by have := hM9.size; omega)
              have HM9 := Lib.hid hM9
              have HPu := Lib.hid hPu
              clear hM9 hPu
              go_wp2_with fail
              refine HPu.out.mono ?_
              rintro e w10 ⟨rfl, a', cap', l2, hp', hH', hO, _⟩
              have HR := Lib.hid (And.intro (push_free hp' Hlr.out) (HM9.out.only hO hH'))
              clear hp' hH' hO HPu HM9
              go_wp2
              go_roundg (gk - 1)
              case measure => omega
              case rel => exact ⟨up asked i (asked i + 1), has, a', cap', l2, i :: rest, Hg2.out, HR.out.1, HT1.out, HR.out.2⟩
end Go.Proofs.YtomgcfjdmoefgaaDoor
