/- WALK: the law SimTimes. -/
import Derived.Test.YtcdmbbnenljnlaaEvOpen
namespace Go.Proofs.Ytcdmbbnenljnlaa
open Go Go.RowKit SimPlain HeapPlain

/-- what waits was planned, each at its time, in the order of the numbers -/
structure TimesInv (l : List Ev) (i : Nat) (q : List Ev) : Prop where
  ids : ∀ e ∈ q, ∃ j : Nat, e.id = j ∧ j < i ∧ (l.getD j e0).t = e.t
  asc : ∀ e ∈ q, ∀ e' ∈ q, e.s < e'.s → e.id < e'.id
theorem TimesInv.zero (l : List Ev) (i : Nat) : TimesInv l i [] := ⟨by simp, by simp⟩
theorem TimesInv.more {l : List Ev} {i : Nat} {q : List Ev} (h : TimesInv l i q) : TimesInv l (i + 1) q :=
  ⟨fun e he => by obtain ⟨j, a, b, c⟩ := h.ids e he; exact ⟨j, a, by omega, c⟩, h.asc⟩
theorem TimesInv.plan {l : List Ev} {i : Nat} {q : List Ev} (h : TimesInv l i q) {seq : Int} (hs : ∀ e ∈ q, e.s ≤ seq) {t : Int} (ht : (l.getD i e0).t = t) : TimesInv l (i + 1) (ins ⟨t, i, seq + 1⟩ q) := by
  have hm : ∀ e, e ∈ ins ⟨t, i, seq + 1⟩ q ↔ e = ⟨t, i, seq + 1⟩ ∨ e ∈ q := fun e => by rw [(ins_perm _ q).mem_iff, List.mem_cons]
  refine ⟨fun e he => ?_, fun e he e' he' hlt => ?_⟩
  · rcases (hm e).1 he with rfl | he
    · exact ⟨i, rfl, by omega, ht⟩
    · obtain ⟨j, a, b, c⟩ := h.ids e he
      exact ⟨j, a, by omega, c⟩
  · rcases (hm e).1 he with rfl | he
    · rcases (hm e').1 he' with rfl | he'
      · simp at hlt
      · have := hs e' he'
        simp only at hlt; omega
    · rcases (hm e').1 he' with rfl | he'
      · obtain ⟨j, a, b, _⟩ := h.ids e he
        simp only; omega
      · exact h.asc e he e' he' hlt
theorem TimesInv.next {l : List Ev} {i : Nat} {x : Ev} {q : List Ev} (h : TimesInv l i (x :: q)) : TimesInv l i q :=
  ⟨fun e he => h.ids e (List.mem_cons_of_mem _ he), fun e he e' he' => h.asc e (List.mem_cons_of_mem _ he) e' (List.mem_cons_of_mem _ he')⟩

/-- what the loops keep: last, planned, happened -/
structure TimesW (l : List Ev) (w0 : World) (S : Nat) (i : Nat) (q : List Ev) (now p h : Int) (w : World) : Prop where
  sim : SimB w0 w S q now p
  inv : TimesInv l i q
  cnt : (q.length : Int) = p - h
  h0 : 0 ≤ h
  small : p ≤ 60

set_option maxRecDepth 100000 in
set_option maxHeartbeats 4000000 in
theorem SimTimes_walk (l : List Ev) (at_ : List Int) (a b : Option Addr) (cap cap' : Nat) (w : World) (hx : EvA w a l) (hy : Ints w b at_) (hl : l.length ≤ 9223372036854775807) (hl' : at_.length ≤ 9223372036854775807) :
    Calls Try.prog 3 #[.slice a l.length cap, .slice b at_.length cap'] w fun e w' => e = .returned (.bool true) ∧ Below w.heap.size w w' := by
  go_enter Try.func3, Try.ntmps3
  go_wp2_with fail
  refine (simFact_any w).mono ?_
  rintro e w1 ⟨rfl, b1⟩
  go_wp2_with fail
  refine (NewB w w1 b1).mono ?_
  rintro e w2 ⟨S, rfl, h2⟩
  have H2 : Hid (TimesW l w S 0 [] 0 0 0 w2) := Lib.hid ⟨h2, TimesInv.zero _ _, by simp, by omega, by omega⟩
  clear h2 b1
  go_wp2
  go_loopw [7, 8, 9, 10] (fun last p h i wr => ∃ (k : Nat) (q : List Ev) (now P Hh : Int), last = .int .i64 now ∧ p = .int .i64 P ∧ h = .int .i64 Hh ∧ i = .int .i64 k ∧ k ≤ l.length ∧ k ≤ 60 ∧ P ≤ k ∧ TimesW l w S k q now P Hh wr) (fun _ _ _ i _ => 60 - (intOf i).toNat)
  case atStart => exact ⟨0, [], 0, 0, 0, rfl, rfl, rfl, rfl, Nat.zero_le _, by omega, by omega, H2.out⟩
  case round =>
    obtain ⟨k, q, now, P, Hh, rfl, rfl, rfl, rfl, hk, hk60, hPk, R⟩ := hrel
    have HR := Lib.hid R
    have hP0 : 0 ≤ P := R.sim.fine.seq0
    have hHP : Hh ≤ P := by have := R.cnt; omega
    have hH0 := R.h0
    have hP60 := R.small
    rcases Nat.lt_or_ge k l.length with hlt | hge
    · rcases Nat.lt_or_ge k 60 with h60 | h60
      · have hkI : (k : Int) < (l.length : Int) := by omega
        have h60I : (k : Int) < 60 := by omega
        obtain ⟨bl, off, rfl, hbl, hcl⟩ := (hx.below R.sim.below).open (by omega)
        obtain ⟨c0, _⟩ := hcl k hlt
        obtain ⟨t, ht⟩ : ∃ t, (l.getD k e0).t = t := ⟨_, rfl⟩
        rw [ht] at c0
        have HTt := Lib.hid ht
        have HX := Lib.hid (fun W (hb : Below w.heap.size w W) => (hx.below hb).open (by omega))
        have HY := Lib.hid (fun W (hb : Below w.heap.size w W) => hy.below hb)
        have hblw : bl < w.heap.size := by
          rcases hx with h | ⟨b', o', he, hl', _⟩
          · rw [h] at hlt; simp at hlt
          · simp only [Option.some.injEq, Addr.mk.injEq, and_true] at he
            rw [he.1]; exact hl'
        -- the event is planned, or it is not
        have hplan : Hid (Calls Try.prog 9 #[.pointer (some ⟨S, 0, none⟩), .agg #[.int .i64 t, .int .i64 k]] wr fun e w' => (e = .returned .nilIface ∧ TimesW l w S (k + 1) (ins ⟨t, k, P + 1⟩ q) now (P + 1) Hh w' ∧ P < 60) ∨ (∃ v, e = .returned (.iface 56 v)) ∧ TimesW l w S (k + 1) q now P Hh w') := by
          refine Lib.hid ?_
          by_cases hc : planC q now t k = 0
          · refine (PlanB_yes HR.out.sim hc (by omega)).mono ?_
            rintro e w' ⟨rfl, h⟩
            refine .inl ⟨rfl, ⟨h, HR.out.inv.plan (fun e he => (HR.out.sim.fine.range e he).2.2.2.2) HTt.out, ?_, HR.out.h0, by omega⟩, by omega⟩
            rw [(ins_perm _ q).length_eq]
            have := HR.out.cnt
            simp only [List.length_cons]; omega
          · refine (PlanB_no HR.out.sim hc).mono ?_
            rintro e w' ⟨rfl, h⟩
            exact .inr ⟨⟨_, rfl⟩, h, HR.out.inv.more, HR.out.cnt, HR.out.h0, HR.out.small⟩
        clear hcl ht R
        go_wp2_with fail
        refine hplan.out.mono ?_
        rintro e w3 hres
        -- one text for both ways
        have hjoin : ∃ (q3 : List Ev) (P3 : Int) (ev : Value), e = .returned ev ∧ ((ev = .nilIface ∧ P3 = P + 1) ∨ ((∃ v, ev = .iface 56 v) ∧ P3 = P)) ∧ P3 ≤ (k : Int) + 1 ∧ TimesW l w S (k + 1) q3 now P3 Hh w3 := by
          rcases hres with ⟨rfl, h, _⟩ | ⟨⟨v, rfl⟩, h⟩
          · exact ⟨_, _, _, rfl, .inl ⟨rfl, rfl⟩, by omega, h⟩
          · exact ⟨_, _, _, rfl, .inr ⟨⟨v, rfl⟩, rfl⟩, by omega, h⟩
        obtain ⟨q3, P3, ev, rfl, hev, hP3, R3⟩ := hjoin
        have HR3 := Lib.hid R3
        have hP30 : 0 ≤ P3 := R3.sim.fine.seq0
        have hP360 := R3.small
        clear R3 hres hplan HR
        rcases hev with ⟨rfl, hPe⟩ | ⟨⟨v, rfl⟩, hPe⟩
        all_goals
          have HPe := Lib.hid hPe
          clear hPe
          go_wp2
          go_loopw [7, 9, 12] (fun last h j wx => ∃ (q : List Ev) (now Hh : Int) (m : Nat), last = .int .i64 now ∧ h = .int .i64 Hh ∧ j = .int .i64 m ∧ m ≤ 5 ∧ TimesW l w S (k + 1) q now P3 Hh wx) (fun _ _ j _ => 5 - (intOf j).toNat)
          case atStart => exact ⟨q3, now, Hh, 0, rfl, rfl, rfl, by omega, HR3.out⟩
          case round =>
            obtain ⟨q4, now4, H4, m, rfl, rfl, rfl, hm, R4⟩ := hrel
            have HR4 := Lib.hid R4
            have hH4 : 0 ≤ H4 := R4.h0
            have hH4P : H4 ≤ P3 := by have := R4.cnt; omega
            have hsz4 := R4.sim.below.size
            -- does anything happen here?
            by_cases hgo : k < at_.length ∧ (m : Int) < at_.getD k 0 ∧ m < 5
            · obtain ⟨g1, g2, g3⟩ := hgo
              obtain ⟨bt, ot, rfl, hct⟩ := (HY.out _ R4.sim.below).open (by omega)
              have hck := hct k g1
              have g1I : (k : Int) < (at_.length : Int) := by omega
              have g3I : (m : Int) < 5 := by omega
              generalize at_.getD k 0 = v2 at *
              clear hct R4
              cases q4 with
              | nil =>
                go_wp2_with fail
                refine (NextB_none HR4.out.sim).mono ?_
                rintro e w5 ⟨rfl, h5⟩
                have H5 := Lib.hid (h5.alloc (.cells #[.int .i64 0, .int .i64 0] 31))
                have HT5 := Lib.hid (show TimesW l w S (k + 1) [] now4 P3 H4 _ from ⟨H5.out, HR4.out.inv, HR4.out.cnt, HR4.out.h0, HR4.out.small⟩)
                clear h5
                go_wp2
                go_roundw
                case rel => exact ⟨k + 1, [], now4, P3, H4, rfl, by rw [HPe.out], rfl, by go_num, by omega, by omega, by omega, HT5.out⟩
                case measure => simp only [intOf]; omega
              | cons x q4 =>
                obtain ⟨j, hj, hjk, hjt⟩ := HR4.out.inv.ids x (by simp)
                have hnx := (HR4.out.sim.fine.range x (by simp)).1
                obtain ⟨xt, xi, xs⟩ := x
                simp only at hj hjt hnx
                subst hj
                go_wp2_with fail
                refine (NextB_some HR4.out.sim).mono ?_
                rintro e w5 ⟨rfl, h5⟩
                simp only
                go_upto_region 18 with fail
                have h6 := h5.alloc (.cells #[.int .i64 xt, .int .i64 j] 31)
                have hb6 := heap_alloc_new w5 (.cells #[.int .i64 xt, .int .i64 j] 31)
                generalize w5.alloc (.cells #[.int .i64 xt, .int .i64 j] 31) = w6 at h6 hb6 ⊢
                generalize w5.heap.size = bx at *
                have y0 : w6.cell? ⟨bx, 0, none⟩ = some (.int .i64 xt) := by simp only [World.cell?, hb6]; rfl
                have y1 : w6.cell? ⟨bx, 1, none⟩ = some (.int .i64 j) := by simp only [World.cell?, hb6]; rfl
                obtain ⟨bl2, off2, he2, _, hcl2⟩ := HX.out _ h6.below
                simp only [Option.some.injEq, Addr.mk.injEq, and_true] at he2
                obtain ⟨rfl, rfl⟩ := he2
                obtain ⟨z0, _⟩ := hcl2 j (by omega)
                rw [hjt] at z0
                have HT6 := Lib.hid (show TimesW l w S (k + 1) q4 xt P3 (H4 + 1) w6 from ⟨h6, HR4.out.inv.next, by have := HR4.out.cnt; simp only [List.length_cons] at this; omega, by omega, HR4.out.small⟩)
                have hjI : (j : Int) ≤ (k : Int) := by omega
                have hjl : (j : Int) < (l.length : Int) := by omega
                have hne : (xt != xt) = false := by simp
                have hd1 : decide ((j : Int) < 0) = false := decide_eq_false (by omega)
                have hd2 : decide ((k : Int) < (j : Int)) = false := decide_eq_false (by omega)
                have hd3 : decide (k < j) = false := decide_eq_false (by omega)
                have hd4 : decide (xt < now4) = false := decide_eq_false (by omega)
                have hH60 : H4 ≤ 60 := by omega
                clear h5 h6 hb6 hcl2 hjt
                go_wp2
                go_quiet (fail)
                go_wp2
                go_roundw
                case rel => exact ⟨q4, xt, H4 + 1, m + 1, rfl, by first | rfl | go_num, by go_num, by omega, ⟨HT6.out.sim.drewN _, HT6.out.inv, HT6.out.cnt, HT6.out.h0, HT6.out.small⟩⟩
                case measure => simp only [intOf]; omega
            · have HT4 := Lib.hid (fun W (o : Only wr W (fun _ => False)) => (show TimesW l w S (k + 1) q4 now4 P3 H4 W from ⟨HR4.out.sim.still o, HR4.out.inv, HR4.out.cnt, HR4.out.h0, HR4.out.small⟩))
              rcases Nat.lt_or_ge k at_.length with g1 | g1
              · obtain ⟨bt, ot, rfl, hct⟩ := (HY.out _ R4.sim.below).open (by omega)
                have hck := hct k g1
                have g1I : (k : Int) < (at_.length : Int) := by omega
                rcases Int.lt_or_le (m : Int) (at_.getD k 0) with g2 | g2
                · have g3I : (5 : Int) ≤ m := by omega
                  generalize at_.getD k 0 = v2 at *
                  clear hct R4 hgo
                  go_wp2
                  go_roundw
                  case rel => exact ⟨k + 1, q4, now4, P3, H4, rfl, by rw [HPe.out], rfl, by go_num, by omega, by omega, by omega, HR4.out⟩
                  case measure => simp only [intOf]; omega
                · generalize at_.getD k 0 = v2 at *
                  clear hct R4 hgo
                  go_wp2
                  go_roundw
                  case rel => exact ⟨k + 1, q4, now4, P3, H4, rfl, by rw [HPe.out], rfl, by go_num, by omega, by omega, by omega, HR4.out⟩
                  case measure => simp only [intOf]; omega
              · have g1I : (at_.length : Int) ≤ (k : Int) := by omega
                clear R4 hgo
                go_wp2
                go_roundw
                case rel => exact ⟨k + 1, q4, now4, P3, H4, rfl, by rw [HPe.out], rfl, by go_num, by omega, by omega, by omega, HR4.out⟩
                case measure => simp only [intOf]; omega
      · have hfact : (60 : Int) ≤ (k : Int) := by omega
        have h0 : ∀ e ∈ q, e.t = now → (-1 : Int) < e.id := fun e he _ => by obtain ⟨j, hj, _⟩ := HR.out.inv.ids e he; omega
        have H0 := Lib.hid h0
        clear R h0
        go_wp2
        go_loopw [7, 9, 15] (fun last h id wx => ∃ (q : List Ev) (now Hh z : Int), last = .int .i64 now ∧ h = .int .i64 Hh ∧ id = .int .i64 z ∧ TimesW l w S k q now P Hh wx ∧ ∀ e ∈ q, e.t = now → z < e.id) (fun _ h _ _ => (P - intOf h).toNat)
        case atStart => exact ⟨q, now, Hh, -1, rfl, rfl, rfl, HR.out, H0.out⟩
        case round =>
          obtain ⟨q2, now2, H2x, z, rfl, rfl, rfl, R2, hz⟩ := hrel
          have HR2 := Lib.hid R2
          have Hz := Lib.hid hz
          have hc2 := R2.cnt
          have hH2 := R2.h0
          have hsl := R2.sim.fine.many
          clear R2 hz
          cases q2 with
          | nil =>
            have hPH : (H2x == P) = true := by rw [beq_iff_eq]; simp at hc2; omega
            clear hc2
            go_wp2_with fail
            refine (ManyB HR2.out.sim).mono ?_
            rintro e w5 ⟨rfl, rfl⟩
            go_wp2
            go_ret
            exact ⟨rfl, HR2.out.sim.below⟩
          | cons x q2 =>
            simp only [List.length_cons] at hc2 hsl
            have hHP2 : H2x ≤ P := by omega
            have hHP3 : H2x < P := by omega
            have hl1 : (0 : Int) < (q2.length : Int) + 1 := by omega
            have hnx := (HR2.out.sim.fine.range x (by simp)).1
            have hzx := Hz.out x (by simp)
            have hnew : ∀ e ∈ q2, e.t = x.t → x.id < e.id := fun e he ht => by
              have h1 := (List.pairwise_cons.1 HR2.out.sim.sorted).1 e he
              refine HR2.out.inv.asc x (by simp) e (List.mem_cons_of_mem _ he) ?_
              unfold Lt at h1; omega
            have hMany := ManyB HR2.out.sim
            simp only [List.length_cons] at hMany
            have HMany := Lib.hid hMany
            have HNew := Lib.hid hnew
            obtain ⟨xt, xi, xs⟩ := x
            simp only at hnx hzx
            clear hnew hMany
            go_wp2_with fail
            refine HMany.out.mono ?_
            rintro e w5 ⟨rfl, rfl⟩
            go_wp2_with fail
            refine (NextB_some HR2.out.sim).mono ?_
            rintro e w5 ⟨rfl, h5⟩
            simp only
            go_upto_region 26 with fail
            have h6 := h5.alloc (.cells #[.int .i64 xt, .int .i64 xi] 31)
            have hb6 := heap_alloc_new w5 (.cells #[.int .i64 xt, .int .i64 xi] 31)
            generalize w5.alloc (.cells #[.int .i64 xt, .int .i64 xi] 31) = w6 at h6 hb6 ⊢
            generalize w5.heap.size = bx at *
            have y0 : w6.cell? ⟨bx, 0, none⟩ = some (.int .i64 xt) := by simp only [World.cell?, hb6]; rfl
            have y1 : w6.cell? ⟨bx, 1, none⟩ = some (.int .i64 xi) := by simp only [World.cell?, hb6]; rfl
            have HT6 := Lib.hid (show TimesW l w S k q2 xt P (H2x + 1) w6 from ⟨h6, HR2.out.inv.next, by omega, by omega, HR2.out.small⟩)
            have hd4 : decide (xt < now2) = false := decide_eq_false (by omega)
            have hH60 : H2x ≤ 60 := by omega
            clear h5 h6 hb6 hc2
            by_cases he : xt = now2
            · have hee : (xt == now2) = true := by rw [he]; exact beq_self_eq_true _
              have hd5 : decide (xi < z) = false := decide_eq_false (by have := hzx he; omega)
              clear he hzx
              go_wp2
              go_roundw
              case rel => exact ⟨q2, xt, H2x + 1, xi, rfl, by first | rfl | go_num, rfl, HT6.out, HNew.out⟩
              case measure => simp only [intOf]; omega
            · have hee : (xt == now2) = false := by rw [beq_eq_false_iff_ne]; exact he
              clear he hzx
              go_wp2
              go_roundw
              case rel => exact ⟨q2, xt, H2x + 1, xi, rfl, by first | rfl | go_num, rfl, HT6.out, HNew.out⟩
              case measure => simp only [intOf]; omega
    · have hfact : (l.length : Int) ≤ (k : Int) := by omega
      have h0 : ∀ e ∈ q, e.t = now → (-1 : Int) < e.id := fun e he _ => by obtain ⟨j, hj, _⟩ := HR.out.inv.ids e he; omega
      have H0 := Lib.hid h0
      clear R h0
      go_wp2
      go_loopw [7, 9, 15] (fun last h id wx => ∃ (q : List Ev) (now Hh z : Int), last = .int .i64 now ∧ h = .int .i64 Hh ∧ id = .int .i64 z ∧ TimesW l w S k q now P Hh wx ∧ ∀ e ∈ q, e.t = now → z < e.id) (fun _ h _ _ => (P - intOf h).toNat)
      case atStart => exact ⟨q, now, Hh, -1, rfl, rfl, rfl, HR.out, H0.out⟩
      case round =>
        obtain ⟨q2, now2, H2x, z, rfl, rfl, rfl, R2, hz⟩ := hrel
        have HR2 := Lib.hid R2
        have Hz := Lib.hid hz
        have hc2 := R2.cnt
        have hH2 := R2.h0
        have hsl := R2.sim.fine.many
        clear R2 hz
        cases q2 with
        | nil =>
          have hPH : (H2x == P) = true := by rw [beq_iff_eq]; simp at hc2; omega
          clear hc2
          go_wp2_with fail
          refine (ManyB HR2.out.sim).mono ?_
          rintro e w5 ⟨rfl, rfl⟩
          go_wp2
          go_ret
          exact ⟨rfl, HR2.out.sim.below⟩
        | cons x q2 =>
          simp only [List.length_cons] at hc2 hsl
          have hHP2 : H2x ≤ P := by omega
          have hHP3 : H2x < P := by omega
          have hl1 : (0 : Int) < (q2.length : Int) + 1 := by omega
          have hnx := (HR2.out.sim.fine.range x (by simp)).1
          have hzx := Hz.out x (by simp)
          have hnew : ∀ e ∈ q2, e.t = x.t → x.id < e.id := fun e he ht => by
            have h1 := (List.pairwise_cons.1 HR2.out.sim.sorted).1 e he
            refine HR2.out.inv.asc x (by simp) e (List.mem_cons_of_mem _ he) ?_
            unfold Lt at h1; omega
          have hMany := ManyB HR2.out.sim
          simp only [List.length_cons] at hMany
          have HMany := Lib.hid hMany
          have HNew := Lib.hid hnew
          obtain ⟨xt, xi, xs⟩ := x
          simp only at hnx hzx
          clear hnew hMany
          go_wp2_with fail
          refine HMany.out.mono ?_
          rintro e w5 ⟨rfl, rfl⟩
          go_wp2_with fail
          refine (NextB_some HR2.out.sim).mono ?_
          rintro e w5 ⟨rfl, h5⟩
          simp only
          go_upto_region 26 with fail
          have h6 := h5.alloc (.cells #[.int .i64 xt, .int .i64 xi] 31)
          have hb6 := heap_alloc_new w5 (.cells #[.int .i64 xt, .int .i64 xi] 31)
          generalize w5.alloc (.cells #[.int .i64 xt, .int .i64 xi] 31) = w6 at h6 hb6 ⊢
          generalize w5.heap.size = bx at *
          have y0 : w6.cell? ⟨bx, 0, none⟩ = some (.int .i64 xt) := by simp only [World.cell?, hb6]; rfl
          have y1 : w6.cell? ⟨bx, 1, none⟩ = some (.int .i64 xi) := by simp only [World.cell?, hb6]; rfl
          have HT6 := Lib.hid (show TimesW l w S k q2 xt P (H2x + 1) w6 from ⟨h6, HR2.out.inv.next, by omega, by omega, HR2.out.small⟩)
          have hd4 : decide (xt < now2) = false := decide_eq_false (by omega)
          have hH60 : H2x ≤ 60 := by omega
          clear h5 h6 hb6 hc2
          by_cases he : xt = now2
          · have hee : (xt == now2) = true := by rw [he]; exact beq_self_eq_true _
            have hd5 : decide (xi < z) = false := decide_eq_false (by have := hzx he; omega)
            clear he hzx
            go_wp2
            go_roundw
            case rel => exact ⟨q2, xt, H2x + 1, xi, rfl, by first | rfl | go_num, rfl, HT6.out, HNew.out⟩
            case measure => simp only [intOf]; omega
          · have hee : (xt == now2) = false := by rw [beq_eq_false_iff_ne]; exact he
            clear he hzx
            go_wp2
            go_roundw
            case rel => exact ⟨q2, xt, H2x + 1, xi, rfl, by first | rfl | go_num, rfl, HT6.out, HNew.out⟩
            case measure => simp only [intOf]; omega
end Go.Proofs.Ytcdmbbnenljnlaa
