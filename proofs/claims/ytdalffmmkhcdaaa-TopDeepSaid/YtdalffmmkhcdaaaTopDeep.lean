/- WALK: the law TopDeep. -/
import Derived.Test.YtdalffmmkhcdaaaSpSim
import Derived.Test.YtdalffmmkhcdaaaSpDeep
import Derived.Test.YtdalffmmkhcdaaaSpRooms2
import Derived.Test.YtdalffmmkhcdaaaSpSweep
import Derived.Test.YtdalffmmkhcdaaaDpFact
set_option linter.unusedVariables false
set_option linter.unusedSimpArgs false
namespace Go.Proofs.Ytdalffmmkhcdaaa
open Go Go.RowKit SimPlain HeapPlain SpPlain

set_option maxRecDepth 100000 in
set_option maxHeartbeats 4000000 in
theorem TopDeep_bad (l : List Ev) (a : Option Addr) (cap : Nat) (w : World) (hx : EvA w a l) (hl : l.length ≤ 9223372036854775807) (hf : ¬ FineS l) :
    Calls Try.prog 3 #[.slice a l.length cap] w fun e w' => e = .returned (.bool true) ∧ Below w.heap.size w w' := by
  have HX := Lib.hid hx
  have HF := Lib.hid hf
  clear hx hf
  go_enter Try.func3, Try.ntmps3
  go_wp2_with fail
  refine (It.sortFact_any w).mono ?_
  rintro e w1 ⟨rfl, hb1⟩
  have HB1 := Lib.hid hb1
  clear hb1
  go_wp2_with fail
  refine (Deep_bad l a cap w1 (HX.out.below HB1.out) hl HF.out).mono ?_
  rintro e w2 ⟨⟨v, rfl⟩, hb2⟩
  have HB2 : Hid (Below w.heap.size w w2) := Lib.hid (HB1.out.trans (hb2.mono HB1.out.size))
  clear hb2
  go_wp2_with fail
  refine (Rooms_bad l a cap w2 (HX.out.below HB2.out) hl HF.out).mono ?_
  rintro e w3 ⟨⟨v2, rfl⟩, hb3⟩
  have HB3 : Hid (Below w.heap.size w w3) := Lib.hid (HB2.out.trans (hb3.mono HB2.out.size))
  clear hb3
  go_wp2
  go_ret
  exact ⟨rfl, HB3.out⟩
set_option maxRecDepth 100000 in
set_option maxHeartbeats 4000000 in
theorem TopDeep_ok (l : List Ev) (a : Option Addr) (cap : Nat) (w : World) (hx : EvA w a l) (hf : FineS l) (N : Nat) (hN : N = l.length) :
    Calls Try.prog 3 #[.slice a N cap] w fun e w' => e = .returned (.bool true) ∧ Below w.heap.size w w' := by
  have h24 := hf.len
  rw [← hN] at h24
  have HX := Lib.hid hx
  have HF := Lib.hid hf
  have HN := Lib.hid hN
  have HDp := Lib.hid (fun w1 (hb : Below w.heap.size w w1) => Deep_ok l a cap w1 (hx.below hb) hf)
  have HRo := Lib.hid (fun w1 (hb : Below w.heap.size w w1) => Rooms_ok l a cap w1 (hx.below hb) hf N hN)
  rw [← hN] at HDp
  clear hx hf hN
  go_enter Try.func3, Try.ntmps3
  go_wp2_with fail
  refine (It.sortFact_any w).mono ?_
  rintro e w1 ⟨rfl, hb1⟩
  have HB1 := Lib.hid hb1
  clear hb1
  go_wp2_with fail
  refine (HDp.out w1 HB1.out).mono ?_
  rintro e w2 ⟨rfl, hb2⟩
  have HB2 : Hid (Below w.heap.size w w2) := Lib.hid (HB1.out.trans (hb2.mono HB1.out.size))
  clear hb2
  have hD0 := mostTo_nonneg l 1001
  have hD1 := mostTo_le l 1001
  rw [← HN.out] at hD1
  obtain ⟨D, hD⟩ : ∃ D, D = mostTo l 1001 := ⟨_, rfl⟩
  rw [← hD] at hD0 hD1 ⊢
  have HD := Lib.hid hD
  clear hD
  go_wp2_with fail
  refine (HRo.out w2 HB2.out).mono ?_
  rintro e w3 ⟨g, out, rfl, hol, hrow, hb3, hg2, hhigh⟩
  have HB3 : Hid (Below w.heap.size w w3) := Lib.hid (HB2.out.trans (hb3.mono HB2.out.size))
  have hg := hrow.lt
  have HRow := Lib.hid hrow
  have HOl := Lib.hid hol
  rw [← HD.out] at hhigh
  have HHigh := Lib.hid hhigh
  clear hb3 hrow hol hhigh hg2 HDp HRo
  go_wp2_with fail
  refine (NewB w3 w3 (Below.refl _ _)).mono ?_
  rintro e w4 ⟨S, rfl, h4⟩
  have H4 := Lib.hid h4
  clear h4
  go_wp2
  go_loopw [9] (fun iv wr => ∃ (k : Nat) (q : List Ev), iv = .int .i64 k ∧ k ≤ N ∧ SimB w3 wr S q 0 k ∧ q.Perm (ends l k)) (fun iv _ => N - (intOf iv).toNat)
  case atStart => exact ⟨0, [], rfl, Nat.zero_le _, H4.out, List.Perm.refl _⟩
  case round =>
    obtain ⟨k, q, rfl, hk, hs, hp⟩ := hrel
    have HS := Lib.hid hs
    have HP := Lib.hid hp
    clear hs hp
    rcases Nat.lt_or_ge k N with hlt | hge
    · obtain ⟨b, off, rfl, hbl, hcs⟩ := HX.out.open (by rw [← HN.out]; omega)
      have hbw : Below w.heap.size w wr := HB3.out.trans (HS.out.below.mono HB3.out.size)
      have c1 := (hbw.cell (p := ⟨b, off + k * 2 + 1, none⟩) hbl).trans (hcs k (by rw [← HN.out]; exact hlt)).2
      have hok := HF.out.all k (by rw [← HN.out]; exact hlt)
      have hql : q.length = k := by rw [HP.out.length_eq]; simp [ends]
      have hpc : planC q 0 (l.getD k e0).id 0 = 0 := by
        unfold okS at hok
        unfold planC
        rw [if_neg (by omega), if_neg (by omega), if_neg (by omega)]
      have hplan := PlanB_yes (id := 0) HS.out hpc (by omega)
      have HP2 : Hid ((ins ⟨(l.getD k e0).id, 0, (k : Int) + 1⟩ q).Perm (ends l (k + 1))) := Lib.hid (by
        rw [ends_succ]
        exact (ins_perm _ q).trans ((HP.out.cons _).trans (List.perm_append_singleton _ _).symm))
      have HPl := Lib.hid hplan
      have hkI : (k : Int) < (N : Int) := by omega
      generalize (l.getD k e0).id = t at *
      clear hcs hbw hok hpc hplan hql
      go_wp2_with fail
      refine HPl.out.mono ?_
      rintro e w5 ⟨rfl, h5⟩
      have H5 := Lib.hid h5
      clear h5
      go_wp2
      go_roundw
      case rel => exact ⟨k + 1, _, by go_num, by omega, by have := H5.out; simpa using this, HP2.out⟩
      case measure => simp only [intOf]; omega
    · obtain rfl : N = k := by omega
      have hd : decide (N < N) = false := by simp
      clear hk hge
      go_wp2
      go_loopw [10] (fun iv wr => ∃ (k : Nat) (q : List Ev), iv = .int .i64 k ∧ k ≤ N ∧ SimB w3 wr S q 0 ((N : Int) + k) ∧ q.Perm (ends l N ++ begs l k)) (fun iv _ => N - (intOf iv).toNat)
      case atStart => exact ⟨0, q, rfl, Nat.zero_le _, by simpa using HS.out, by simpa [begs] using HP.out⟩
      case round =>
        obtain ⟨k, q2, rfl, hk, hs2, hp2⟩ := hrel
        have HS2 := Lib.hid hs2
        have HP2 := Lib.hid hp2
        clear hs2 hp2
        rcases Nat.lt_or_ge k N with hlt | hge
        · obtain ⟨b, off, rfl, hbl, hcs⟩ := HX.out.open (by rw [← HN.out]; omega)
          have hbw : Below w.heap.size w wr := HB3.out.trans (HS2.out.below.mono HB3.out.size)
          have c1 := (hbw.cell (p := ⟨b, off + k * 2, none⟩) hbl).trans (hcs k (by rw [← HN.out]; exact hlt)).1
          have hok := HF.out.all k (by rw [← HN.out]; exact hlt)
          have hql : q2.length = N + k := by rw [HP2.out.length_eq]; simp [ends, begs]
          have hpc : planC q2 0 (l.getD k e0).t 1 = 0 := by
            unfold okS at hok
            unfold planC
            rw [if_neg (by omega), if_neg (by omega), if_neg (by omega)]
          have hplan := PlanB_yes (id := 1) HS2.out hpc (by omega)
          have HP3 : Hid ((ins ⟨(l.getD k e0).t, 1, (N : Int) + k + 1⟩ q2).Perm (ends l N ++ begs l (k + 1))) := Lib.hid (by
            rw [begs_succ, ← List.append_assoc]
            have e : (⟨(l.getD k e0).t, 1, (N : Int) + k + 1⟩ : Ev) = begAt l k := by unfold begAt; rw [← HN.out]
            rw [e]
            exact (ins_perm _ q2).trans ((HP2.out.cons _).trans (List.perm_append_singleton _ _).symm))
          have HPl := Lib.hid hplan
          have hkI : (k : Int) < (N : Int) := by omega
          generalize (l.getD k e0).t = t at *
          clear hcs hbw hok hpc hplan hql
          go_wp2_with fail
          refine HPl.out.mono ?_
          rintro e w5 ⟨rfl, h5⟩
          have H5 : Hid (SimB w3 w5 S (ins ⟨t, 1, (N : Int) + k + 1⟩ q2) 0 ((N : Int) + ((k + 1 : Nat) : Int))) := Lib.hid (by
            rw [show (N : Int) + ((k + 1 : Nat) : Int) = (N : Int) + k + 1 by omega]; exact h5)
          clear h5
          go_wp2
          go_roundw
          case rel => exact ⟨k + 1, _, by go_num, by omega, H5.out, HP3.out⟩
          case measure => simp only [intOf]; omega
        · obtain rfl : N = k := by omega
          have hd : decide (N < N) = false := by simp
          have hsw : sweep q2 = (0, D) := by
            have h1 := HP2.out
            rw [HN.out] at h1
            rw [HD.out]
            exact sweep_all h1 HS2.out.sorted fun i hi => (HF.out.all i hi).1
          have HSw := Lib.hid hsw
          have hq60 : q2.length ≤ 60 := HS2.out.fine.many
          have HQl : Hid (q2.length ≤ 60) := Lib.hid hq60
          clear hk hge hsw hq60
          go_wp2
          go_loopg [11, 12] q2.length (fun gk nv mv wr => ∃ (P q : List Ev) (tm : Int), P ++ q = q2 ∧ q.length = gk ∧ nv = .int .i64 (sweep P).1 ∧ mv = .int .i64 (sweep P).2 ∧ SimB w3 wr S q tm ((N : Int) + N))
          case atStart => exact ⟨[], q2, 0, rfl, rfl, rfl, rfl, HS2.out⟩
          case round =>
            obtain ⟨P, q3, tm, hPq, hql, rfl, rfl, hs3⟩ := hrel
            have HPq := Lib.hid hPq
            have HS3 := Lib.hid hs3
            clear hPq hs3
            have hb4 := sweep_bounds P
            have hPl : P.length + q3.length ≤ 60 := by have := HQl.out; rw [← HPq.out, List.length_append] at this; exact this
            have hSn := fun x => sweep_snoc P x
            cases gk with
            | zero =>
              obtain rfl : q3 = [] := List.eq_nil_of_length_eq_zero hql
              have hsp : sweep P = (0, D) := by
                have h1 := HPq.out
                rw [List.append_nil] at h1
                rw [h1]; exact HSw.out
              rw [hsp]
              have HMany := Lib.hid (ManyB HS3.out)
              have HB9 : Hid (Below w.heap.size w wr) := Lib.hid (HB3.out.trans (HS3.out.below.mono HB3.out.size))
              have HRow9 : Hid (Row wr g 3 out) := Lib.hid (HRow.out.below HS3.out.below hg)
              clear hsp hb4 hPl hSn hql
              go_wp2_with fail
              refine HMany.out.mono ?_
              rintro e w5 ⟨rfl, rfl⟩
              go_wp2
              rename World => wo
              go_loopw [15, 16] (fun hv iv wx => ∃ (k : Nat) (h : Int), hv = .int .i64 h ∧ iv = .int .i64 k ∧ k ≤ N ∧ 0 ≤ h ∧ h ≤ D ∧ (∀ j, j < k → out.getD j 0 < h) ∧ wo = wx) (fun _ iv _ => N - (intOf iv).toNat)
              case atStart => exact ⟨0, 0, rfl, rfl, Nat.zero_le _, Int.le_refl _, hD0, fun j hj => by omega, rfl⟩
              case round =>
                obtain ⟨k, h, rfl, rfl, hk, hh0, hhD, hall, rfl⟩ := hrel
                have HAll := Lib.hid hall
                clear hall
                rcases Nat.lt_or_ge k N with hlt | hge
                · have ck := HRow9.out.cell k (by rw [HOl.out]; exact hlt)
                  have hkI : (k : Int) < (N : Int) := by omega
                  have hbo : 0 ≤ out.getD k 0 ∧ out.getD k 0 < D := by
                    rcases HHigh.out with ⟨e, _⟩ | ⟨e, _⟩
                    · omega
                    · exact e k
                  obtain ⟨o1, o2⟩ := hbo
                  rcases Int.lt_or_le h (out.getD k 0 + 1) with d | d
                  · have HA2 : Hid (∀ j, j < k + 1 → out.getD j 0 < out.getD k 0 + 1) := Lib.hid fun j hj => by
                      rcases Nat.lt_or_ge j k with c | c
                      · have := HAll.out j c; omega
                      · obtain rfl : j = k := by omega
                        omega
                    generalize out.getD k 0 = v at *
                    go_wp2
                    go_roundw
                    case rel => exact ⟨k + 1, v + 1, rfl, by go_num, by omega, by omega, by omega, HA2.out, by first | rfl | trivial⟩
                    case measure => simp only [intOf]; omega
                  · have HA2 : Hid (∀ j, j < k + 1 → out.getD j 0 < h) := Lib.hid fun j hj => by
                      rcases Nat.lt_or_ge j k with c | c
                      · exact HAll.out j c
                      · obtain rfl : j = k := by omega
                        omega
                    generalize out.getD k 0 = v at *
                    go_wp2
                    go_roundw
                    case rel => exact ⟨k + 1, h, rfl, by go_num, by omega, by omega, by omega, HA2.out, by first | rfl | trivial⟩
                    case measure => simp only [intOf]; omega
                · obtain rfl : N = k := by omega
                  have hd2 : decide (N < N) = false := by simp
                  have hhd : h = D := by
                    rcases HHigh.out with ⟨_, e⟩ | ⟨_, j, e1, e2⟩
                    · omega
                    · have := HAll.out j e1; omega
                  subst hhd
                  clear hk hge
                  go_wp2
                  go_ret
                  exact ⟨rfl, HB9.out⟩
            | succ gk =>
              obtain ⟨x, q4, rfl⟩ : ∃ x q4, q3 = x :: q4 := by cases q3 with | nil => simp at hql | cons x q4 => exact ⟨x, q4, rfl⟩
              have hq4 : q4.length = gk := by simpa using hql
              have hSx := hSn x
              generalize hsp : sweep P = sp at *
              obtain ⟨nw, mo⟩ := sp
              have hMany := ManyB HS3.out
              have hl1 : (0 : Int) < ((x :: q4).length : Int) := by simp only [List.length_cons]; omega
              have hll : ((x :: q4).length : Int) ≤ 60 := by omega
              generalize (x :: q4).length = ll at hMany hl1 hll
              have HMany := Lib.hid hMany
              have HPx : Hid ((P ++ [x]) ++ q4 = q2) := Lib.hid (by rw [← HPq.out]; simp)
              have HNx := Lib.hid (NextB_some HS3.out)
              have HSx := Lib.hid hSx
              have HQ4 := Lib.hid hq4
              have hPl2 : P.length ≤ 60 := by omega
              obtain ⟨xt, xi, xs⟩ := x
              simp only at hb4 HNx
              obtain ⟨g1, g2, g3, g4⟩ := hb4
              have n1 : -60 ≤ nw := by omega
              have n2 : nw ≤ 60 := by omega
              have n4 : mo ≤ 60 := by omega
              clear hSn hSx hql hq4 hMany hPl g1 g2 g4 hPl2 hsp
              go_wp2_with fail
              refine HMany.out.mono ?_
              rintro e w5 ⟨rfl, rfl⟩
              go_wp2_with fail
              refine HNx.out.mono ?_
              rintro e w5 ⟨rfl, h5⟩
              simp only
              go_upto_region 23 with fail
              have h6 := h5.alloc (.cells #[.int .i64 xt, .int .i64 xi] 37)
              have hb6 := heap_alloc_new w5 (.cells #[.int .i64 xt, .int .i64 xi] 37)
              generalize w5.alloc (.cells #[.int .i64 xt, .int .i64 xi] 37) = w6 at h6 hb6 ⊢
              generalize w5.heap.size = bx at *
              have y1 : w6.cell? ⟨bx, 1, none⟩ = some (.int .i64 xi) := by simp only [World.cell?, hb6]; rfl
              have H6 := Lib.hid h6
              clear h5 h6 hb6
              have hS6 := HSx.out
              unfold sweepB at hS6
              simp only at hS6
              by_cases c : xi = 1
              · have ce : (xi == 1) = true := by rw [c]; rfl
                rw [if_pos c] at hS6
                clear c
                rcases Int.lt_or_le mo (nw + 1) with d | d
                · rw [if_pos d] at hS6
                  have HS6 := Lib.hid hS6
                  clear hS6
                  go_wp2
                  go_roundg gk
                  case measure => omega
                  case rel => exact ⟨_, q4, xt, HPx.out, HQ4.out, by rw [HS6.out], by rw [HS6.out], H6.out⟩
                · rw [if_neg (by omega)] at hS6
                  have HS6 := Lib.hid hS6
                  clear hS6
                  go_wp2
                  go_roundg gk
                  case measure => omega
                  case rel => exact ⟨_, q4, xt, HPx.out, HQ4.out, by rw [HS6.out], by rw [HS6.out], H6.out⟩
              · have ce : (xi == 1) = false := by rw [beq_eq_false_iff_ne]; exact c
                rw [if_neg c] at hS6
                clear c
                rcases Int.lt_or_le mo (nw - 1) with d | d
                · rw [if_pos d] at hS6
                  have HS6 := Lib.hid hS6
                  clear hS6
                  go_wp2
                  go_roundg gk
                  case measure => omega
                  case rel => exact ⟨_, q4, xt, HPx.out, HQ4.out, by rw [HS6.out], by rw [HS6.out], H6.out⟩
                · rw [if_neg (by omega)] at hS6
                  have HS6 := Lib.hid hS6
                  clear hS6
                  go_wp2
                  go_roundg gk
                  case measure => omega
                  case rel => exact ⟨_, q4, xt, HPx.out, HQ4.out, by rw [HS6.out], by rw [HS6.out], H6.out⟩
end Go.Proofs.Ytdalffmmkhcdaaa
