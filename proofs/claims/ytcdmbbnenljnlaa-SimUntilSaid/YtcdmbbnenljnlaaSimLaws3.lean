/- WALK: the law SimUntil: two sims side by side. -/
import Derived.Test.YtcdmbbnenljnlaaSimLaws2
import Derived.Laws.StructEq
namespace Go.Proofs.Ytcdmbbnenljnlaa
open Go Go.RowKit SimPlain HeapPlain

/-- two sims made since w0, neither touching the other -/
structure Two (w0 w : World) (S : Nat) (qs : List Ev) (ns ss : Int) (T : Nat) (qt : List Ev) (nt st : Int) (F G : Nat → Prop) : Prop where
  s : SimQ w w0.heap.size S F qs ns ss
  t : SimQ w w0.heap.size T G qt nt st
  apart : ∀ k, F k → ¬ G k
  bel : Below w0.heap.size w0 w
def TwoB (w0 w : World) (S : Nat) (qs : List Ev) (ns ss : Int) (T : Nat) (qt : List Ev) (nt st : Int) : Prop := ∃ F G, Two w0 w S qs ns ss T qt nt st F G
theorem TwoB.swap {w0 w : World} {S : Nat} {qs : List Ev} {ns ss : Int} {T : Nat} {qt : List Ev} {nt st : Int} (h : TwoB w0 w S qs ns ss T qt nt st) : TwoB w0 w T qt nt st S qs ns ss := by
  obtain ⟨F, G, h⟩ := h
  exact ⟨G, F, h.t, h.s, fun k a b => h.apart k b a, h.bel⟩
theorem TwoB.still {w0 w w' : World} {S : Nat} {qs : List Ev} {ns ss : Int} {T : Nat} {qt : List Ev} {nt st : Int} (h : TwoB w0 w S qs ns ss T qt nt st) (o : Only w w' (fun _ => False)) : TwoB w0 w' S qs ns ss T qt nt st := by
  obtain ⟨F, G, h⟩ := h
  exact ⟨F, G, h.s.only o (fun _ _ c => c), h.t.only o (fun _ _ c => c), h.apart, h.bel.trans (o.below h.bel.size (fun _ c => c.elim))⟩
/-- what the one is told leaves the other -/
theorem Two.step {w0 w w' : World} {S : Nat} {qs qs' : List Ev} {ns ss ns' ss' : Int} {T : Nat} {qt : List Ev} {nt st : Int} {F G F' : Nat → Prop} (h : Two w0 w S qs ns ss T qt nt st F G) (hs : SimQ w' w0.heap.size S F' qs' ns' ss') (o : Only w w' F) (hF : ∀ k, F' k → F k ∨ w.heap.size ≤ k) : TwoB w0 w' S qs' ns' ss' T qt nt st := by
  refine ⟨F', G, hs, h.t.only o (fun k hk c => h.apart k c hk), fun k a b => ?_, h.bel.trans (o.below h.bel.size (fun k hk => (h.s.fb k hk).1))⟩
  rcases hF k a with c | c
  · exact h.apart k c b
  · have := (h.t.fb k b).2; omega
theorem TwoB.sims {w0 w : World} {S : Nat} {qs : List Ev} {ns ss : Int} {T : Nat} {qt : List Ev} {nt st : Int} (h : TwoB w0 w S qs ns ss T qt nt st) : SimB w0 w S qs ns ss ∧ SimB w0 w T qt nt st := by
  obtain ⟨F, G, h⟩ := h
  exact ⟨⟨F, h.s, h.bel⟩, ⟨G, h.t, h.bel⟩⟩
theorem NewTwo (w0 w : World) (S : Nat) (h : SimB w0 w S [] 0 0) : Calls Try.prog 8 #[] w fun e w' => ∃ T, e = .returned (.pointer (some ⟨T, 0, none⟩)) ∧ TwoB w0 w' S [] 0 0 T [] 0 0 := by
  obtain ⟨F, s, b⟩ := h
  have hsz := b.size
  refine (New_any w).mono ?_
  rintro e w' ⟨T, rfl, ⟨H, a, cap, l, hG⟩, b'⟩
  refine ⟨T, rfl, F, _, s.only (own := fun k => w.heap.size ≤ k) ⟨b'.os, b'.tape, b'.output, b'.size, fun k hk _ => b'.block k hk⟩ (fun k hk c => by have := (s.fb k hk).2; omega), ⟨H, a, cap, l, ⟨⟨by have := hG.heap.hb; omega, hG.heap.h, ?_, hG.heap.apart⟩, hG.ord, hG.perm, hG.s, hG.sH, hG.sa, hG.foot, hG.fs, fun k hk => by have := hG.fb k hk; omega, hG.fine, hG.sorted⟩⟩, fun k a b => by have := (s.fb k a).2; have := (hG.fb k b).1; omega, b.trans (b'.mono hsz)⟩
  refine ⟨hG.heap.row.1, ?_⟩
  rcases hG.heap.row.2 with c | ⟨g, c, cur, h1, h2, h3⟩
  · exact .inl c
  · exact .inr ⟨g, c, cur, h1, by omega, h3⟩
theorem PlanTwo {w0 w : World} {S : Nat} {qs : List Ev} {ns ss : Int} {T : Nat} {qt : List Ev} {nt st : Int} {t id : Int} (h : TwoB w0 w S qs ns ss T qt nt st) (hc : planC qs ns t id = 0) (hs : ss ≤ 1000000) :
    Calls Try.prog 9 #[.pointer (some ⟨S, 0, none⟩), .agg #[.int .i64 t, .int .i64 id]] w fun e w' => e = .returned .nilIface ∧ TwoB w0 w' S (ins ⟨t, id, ss + 1⟩ qs) ns (ss + 1) T qt nt st := by
  obtain ⟨F, G, h⟩ := h
  refine (Plan_yes S _ F qs ns ss t id w h.bel.size h.s hc hs).mono ?_
  rintro e w' ⟨rfl, s', o⟩
  exact ⟨rfl, h.step s' o (fun k hk => hk.imp_right (·.1))⟩
theorem PlanTwo_no {w0 w : World} {S : Nat} {qs : List Ev} {ns ss : Int} {T : Nat} {qt : List Ev} {nt st : Int} {t id : Int} (h : TwoB w0 w S qs ns ss T qt nt st) (hc : planC qs ns t id ≠ 0) :
    Calls Try.prog 9 #[.pointer (some ⟨S, 0, none⟩), .agg #[.int .i64 t, .int .i64 id]] w fun e w' => e = .returned (.iface 56 (.int .i64 (planC qs ns t id))) ∧ TwoB w0 w' S qs ns ss T qt nt st := by
  have h' := h
  obtain ⟨F, G, h⟩ := h
  refine (Plan_no S _ F qs ns ss t id w h.s hc).mono ?_
  rintro e w' ⟨rfl, o⟩
  exact ⟨rfl, h'.still o⟩
theorem NextTwo {w0 w : World} {S : Nat} {x : Ev} {qs : List Ev} {ns ss : Int} {T : Nat} {qt : List Ev} {nt st : Int} {F G : Nat → Prop} (h : Two w0 w S qs ns ss T (x :: qt) nt st F G) :
    Calls Try.prog 10 #[.pointer (some ⟨T, 0, none⟩)] w fun e w' => e = .returned (.tuple #[.agg #[.int .i64 x.t, .int .i64 x.id], .nilIface]) ∧ Two w0 w' S qs ns ss T qt x.t st F G ∧ Only w w' G := by
  refine (Next_some T _ G x qt nt st w h.t).mono ?_
  rintro e w' ⟨rfl, s', o⟩
  exact ⟨rfl, ⟨h.s.only o (fun k a b => h.apart k a b), s', h.apart, h.bel.trans (o.below h.bel.size (fun k hk => (h.t.fb k hk).1))⟩, o⟩
theorem NextTwo_none {w0 w : World} {S : Nat} {qs : List Ev} {ns ss : Int} {T : Nat} {nt st : Int} {F G : Nat → Prop} (h : Two w0 w S qs ns ss T [] nt st F G) :
    Calls Try.prog 10 #[.pointer (some ⟨T, 0, none⟩)] w fun e w' => e = .returned (.tuple #[.agg #[.int .i64 0, .int .i64 0], .iface 56 (.int .i64 5)]) ∧ TwoB w0 w' S qs ns ss T [] nt st := by
  refine (Next_none T _ G nt st w h.t).mono ?_
  rintro e w' ⟨rfl, o⟩
  exact ⟨rfl, TwoB.still ⟨F, G, h⟩ o⟩
theorem UntilTwo {w0 w : World} {S : Nat} {qs : List Ev} {ns ss : Int} {T : Nat} {qt : List Ev} {nt st : Int} {D : Int} (h : TwoB w0 w S qs ns ss T qt nt st) (hc : untilC ns D = 0) :
    Calls Try.prog 12 #[.pointer (some ⟨S, 0, none⟩), .int .i64 D] w fun e w' => ∃ F G ao capo, e = .returned (.tuple #[.slice ao (qs.takeWhile (tillB D)).length capo, .nilIface]) ∧ EtOwn w' w.heap.size ao capo (qs.takeWhile (tillB D)) ∧ Two w0 w' S (qs.dropWhile (tillB D)) D ss T qt nt st F G ∧ ∀ k, G k → k < w.heap.size := by
  obtain ⟨F, G, h⟩ := h
  refine (Until_yes S _ F qs ns ss D w h.s hc).mono ?_
  rintro e w' ⟨ao, capo, rfl, ho, s', o⟩
  exact ⟨F, G, ao, capo, rfl, ho, ⟨s', h.t.only o (fun k a b => h.apart k b a), h.apart, h.bel.trans (o.below h.bel.size (fun k hk => (h.s.fb k hk).1))⟩, fun k hk => (h.t.fb k hk).2⟩
theorem Two.stillE {w0 w w' : World} {S : Nat} {qs : List Ev} {ns ss : Int} {T : Nat} {qt : List Ev} {nt st : Int} {F G : Nat → Prop} (h : Two w0 w S qs ns ss T qt nt st F G) (o : Only w w' (fun _ => False)) : Two w0 w' S qs ns ss T qt nt st F G :=
  ⟨h.s.only o (fun _ _ c => c), h.t.only o (fun _ _ c => c), h.apart, h.bel.trans (o.below h.bel.size (fun _ c => c.elim))⟩

theorem event_guard (op : BinOp) (x y : Operand) (xs ys : Array Value) (w : World) : (eqGuard op 31 x y (.agg xs) (.agg ys)).run Try.prog w = .ok () w := run_eqGuard_agg w op _ x y xs ys (by kernel_rfl)
theorem event_neq (m j : Int) (w : World) : (binOp .neq 31 (.agg #[.int .i64 m, .int .i64 j]) (.agg #[.int .i64 m, .int .i64 j])).run Try.prog w = .ok (.bool false) w := by
  have u3 := Try.underlying3
  have a3 := Try.isAgg3
  have z3 := Try.sizeOf3
  have hS : Try.prog.underlying 31 = some (.struct (Try.prog.fieldsOf 31)) := by kernel_rfl
  have hp : Try.prog.stoodInHeld 31 = false := by kernel_rfl
  rw [run_neq_struct, show (10000 : Nat) = 9999 + 1 from rfl, run_equalIn_agg w 9999 31 _ _ hS hp]
  simp only [Program.fieldsOf, Try.underlying31]
  go_simp

set_option maxRecDepth 100000 in
set_option maxHeartbeats 4000000 in
theorem SimUntil_walk (l : List Ev) (D : Int) (a : Option Addr) (cap : Nat) (w : World) (hx : EvA w a l) (hl : l.length ≤ 9223372036854775807) :
    Calls Try.prog 4 #[.slice a l.length cap, .int .i64 D] w fun e w' => e = .returned (.bool true) ∧ Below w.heap.size w w' := by
  have hgd := event_guard
  have hnq := event_neq
  go_enter Try.func4, Try.ntmps4
  go_wp2_with fail
  refine (simFact_any w).mono ?_
  rintro e w1 ⟨rfl, b1⟩
  go_wp2_with fail
  refine (NewB w w1 b1).mono ?_
  rintro e w2 ⟨S, rfl, h2⟩
  have H2 := Lib.hid h2
  clear h2 b1
  go_wp2_with fail
  refine (NewTwo w w2 S H2.out).mono ?_
  rintro e w3 ⟨T, rfl, h3⟩
  have H3 := Lib.hid h3
  clear h3 H2
  go_wp2
  go_loopw [8] (fun i wr => ∃ (k : Nat) (q : List Ev) (P : Int), i = .int .i64 k ∧ k ≤ l.length ∧ k ≤ 60 ∧ P ≤ k ∧ TwoB w wr S q 0 P T q 0 P) (fun i _ => 60 - (intOf i).toNat)
  case atStart => exact ⟨0, [], 0, rfl, Nat.zero_le _, by omega, by omega, H3.out⟩
  case round =>
    obtain ⟨k, q, P, rfl, hk, hk60, hPk, R⟩ := hrel
    have HR := Lib.hid R
    by_cases hg : k < l.length ∧ k < 60
    · obtain ⟨hlt, h60⟩ := hg
      have hkI : (k : Int) < (l.length : Int) := by omega
      have h60I : (k : Int) < 60 := by omega
      have hblw : ∀ b o c, a = some ⟨b, o, c⟩ → b < w.heap.size := fun b o c e => by
        rcases hx with h | ⟨b', o', he, hl', _⟩
        · rw [h] at hlt; simp at hlt
        · rw [e] at he
          simp only [Option.some.injEq, Addr.mk.injEq] at he
          rw [he.1]; exact hl'
      obtain ⟨bl, off, rfl, hbl, hcl⟩ := (hx.below R.sims.1.below).open (by omega)
      have hbw := hblw bl off none rfl
      obtain ⟨c0, c1⟩ := hcl k hlt
      generalize (l.getD k e0).t = t at c0
      generalize (l.getD k e0).id = id at c1
      have hfwd : ∀ W1 W2, Below w.heap.size w W1 → Below w.heap.size w W2 → ∀ o v, W1.cell? ⟨bl, o, none⟩ = some v → W2.cell? ⟨bl, o, none⟩ = some v := fun W1 W2 b1 b2 o v h => by
        rw [b2.cell (p := ⟨bl, o, none⟩) hbw, ← b1.cell (p := ⟨bl, o, none⟩) hbw]; exact h
      have bR := R.sims.1.below
      have HC0 := Lib.hid (fun W b => hfwd wr W bR b _ _ c0)
      have HC1 := Lib.hid (fun W b => hfwd wr W bR b _ _ c1)
      clear hcl hfwd hblw
      by_cases hc : planC q 0 t id = 0
      · have HP := Lib.hid (PlanTwo HR.out hc (by omega))
        have HcH := Lib.hid hc
        clear hc R
        go_wp2_with fail
        refine HP.out.mono ?_
        rintro e w5 ⟨rfl, h5⟩
        have H5 := Lib.hid h5
        have d0 := HC0.out _ h5.sims.1.below
        have d1 := HC1.out _ h5.sims.1.below
        clear h5 c0 c1
        go_wp2_with fail
        refine (PlanTwo H5.out.swap HcH.out (by omega)).mono ?_
        rintro e w6 ⟨rfl, h6⟩
        have H6 := Lib.hid h6.swap
        clear h6
        go_wp2
        go_quiet (fail)
        go_wp2
        go_roundw
        case rel => exact ⟨k + 1, _, P + 1, by go_num, by omega, by omega, by omega, H6.out.still ((Only.refl _ _).drewN _)⟩
        case measure => simp only [intOf]; omega
      · have HP := Lib.hid (PlanTwo_no HR.out hc)
        have HcH := Lib.hid hc
        clear hc R
        go_wp2_with fail
        refine HP.out.mono ?_
        rintro e w5 ⟨rfl, h5⟩
        have H5 := Lib.hid h5
        have d0 := HC0.out _ h5.sims.1.below
        have d1 := HC1.out _ h5.sims.1.below
        clear h5 c0 c1
        go_wp2_with fail
        refine (PlanTwo_no H5.out.swap HcH.out).mono ?_
        rintro e w6 ⟨rfl, h6⟩
        have H6 := Lib.hid h6.swap
        clear h6
        go_wp2
        go_quiet (fail)
        go_wp2
        go_roundw
        case rel => exact ⟨k + 1, q, P, by go_num, by omega, by omega, by omega, H6.out.still ((Only.refl _ _).drewN _)⟩
        case measure => simp only [intOf]; omega
    · have hfact : (l.length : Int) ≤ k ∨ ((k : Int) < l.length ∧ (60 : Int) ≤ k) := by omega
      clear hg R
      rcases hfact with hf | ⟨hf1, hf2⟩
      all_goals
        by_cases hc : untilC 0 D = 0
        · have t1 : D ≤ 1000000 := by unfold untilC at hc; split at hc <;> omega
          have t0 : 0 ≤ D := by unfold untilC at hc; split at hc <;> omega
          have hall := till_all HR.out.sims.1.sorted D
          have hpre : ∀ e ∈ q.takeWhile (tillB D), e.t ≤ D := fun e he => by have := List.all_takeWhile (p := tillB D) (l := q); rw [List.all_eq_true] at this; simpa [tillB] using this e he
          have hq : q = q.takeWhile (tillB D) ++ q.dropWhile (tillB D) := (List.takeWhile_append_dropWhile).symm
          have hql := HR.out.sims.1.fine.many
          have HU := Lib.hid (UntilTwo HR.out hc)
          clear hc
          generalize q.takeWhile (tillB D) = pre at *
          generalize q.dropWhile (tillB D) = post at *
          have hlen : pre.length ≤ 60 := by rw [hq, List.length_append] at hql; omega
          have Hq := Lib.hid hq
          have Hall := Lib.hid hall
          have Hpre := Lib.hid hpre
          clear hq hall hpre hql
          go_wp2_with fail
          refine HU.out.mono ?_
          rintro e w5 ⟨F, G, ao, capo, rfl, hown, hTwo, hG⟩
          have HTwo := Lib.hid hTwo
          have HOwn := Lib.hid hown
          have HG := Lib.hid hG
          clear hTwo hown hG
          go_wp2
          go_loopw [13] (fun i wx => ∃ (j : Nat) (nt : Int), i = .int .i64 j ∧ j ≤ pre.length ∧ Two w wx S post D P T (q.drop j) nt P F G ∧ EtOwn wx wr.heap.size ao capo pre) (fun i _ => pre.length - (intOf i).toNat)
          case atStart => exact ⟨0, 0, rfl, Nat.zero_le _, HTwo.out, HOwn.out⟩
          case round =>
            obtain ⟨j, nt, rfl, hj, hT2, hO2⟩ := hrel
            have HT2 := Lib.hid hT2
            have HO2 := Lib.hid hO2
            rcases Nat.lt_or_ge j pre.length with hlt | hge
            · have hdrop : q.drop j = pre.getD j e0 :: q.drop (j + 1) := by
                have h1 : j < q.length := by rw [Hq.out, List.length_append]; omega
                rw [List.drop_eq_getElem_cons h1, getD_lt e0 pre j hlt]
                congr 1
                have := Hq.out
                rw [List.getElem_of_eq this, List.getElem_append_left hlt]
              have hx2 := Hpre.out (pre.getD j e0) (by rw [getD_lt e0 pre j hlt]; exact List.getElem_mem hlt)
              rw [hdrop] at hT2
              have hN := NextTwo hT2
              obtain ⟨x, hxe⟩ : ∃ x, pre.getD j e0 = x := ⟨_, rfl⟩
              rw [hxe] at hN hx2
              have Hxe := Lib.hid hxe
              have HN := Lib.hid hN
              obtain ⟨xt, xi, xs⟩ := x
              simp only at hx2 HN
              have hjI : (j : Int) < (pre.length : Int) := by omega
              clear hT2 hO2 hN hdrop hxe
              go_wp2_with fail
              refine HN.out.mono ?_
              rintro e w7 ⟨rfl, hT7, o7⟩
              have hO7 := HO2.out.only o7 HG.out
              have HT7 := Lib.hid hT7
              clear hT7 o7
              go_upto_region 20 with fail
              have o8 := Only.alloc w7 (.cells #[.int .i64 xt, .int .i64 xi] 31) (fun _ => False)
              have hb8 := heap_alloc_new w7 (.cells #[.int .i64 xt, .int .i64 xi] 31)
              generalize w7.alloc (.cells #[.int .i64 xt, .int .i64 xi] 31) = w8 at o8 hb8 ⊢
              generalize w7.heap.size = bx at *
              have y0 : w8.cell? ⟨bx, 0, none⟩ = some (.int .i64 xt) := by simp only [World.cell?, hb8]; rfl
              have y1 : w8.cell? ⟨bx, 1, none⟩ = some (.int .i64 xi) := by simp only [World.cell?, hb8]; rfl
              have hO8 := hO7.only o8 (fun _ c => c.elim)
              have hT8 := HT7.out.stillE o8
              obtain ⟨g, rfl, _, _, hcell⟩ := hO8.open (by omega)
              obtain ⟨z0, z1⟩ := hcell j hlt
              rw [Hxe.out] at z0 z1
              simp only at z0 z1
              have HO8 := Lib.hid hO8
              have HT8 := Lib.hid hT8
              have hd1 : decide (D < xt) = false := decide_eq_false (by omega)
              clear hO7 hO8 hT8 hcell o8 hb8
              go_wp2
              go_quiet (fail)
              go_wp2
              go_roundw
              case rel => exact ⟨j + 1, xt, by go_num, by omega, HT8.out.stillE ((Only.refl _ _).drewN _), HO8.out.only ((Only.refl _ (fun _ => False)).drewN _) (fun _ c => c.elim)⟩
              case measure => simp only [intOf]; omega
            · obtain rfl : pre.length = j := by omega
              have h3 : decide (pre.length < pre.length) = false := by simp
              have hd : q.drop pre.length = post := by rw [Hq.out]; exact List.drop_left
              rw [hd] at hT2
              have HT2 := Lib.hid hT2
              have hDD : (D == D) = true := by simp
              clear hT2 hO2 hd
              cases post with
              | nil =>
                go_wp2_with fail
                refine (NextTwo_none HT2.out).mono ?_
                rintro e w7 ⟨rfl, h7⟩
                have H7 := Lib.hid (h7.still (Only.alloc w7 (.cells #[.int .i64 0, .int .i64 0] 31) (fun _ => False)))
                clear h7
                go_wp2_with fail
                refine (NowB H7.out.sims.1).mono ?_
                rintro e w8 ⟨rfl, rfl⟩
                go_wp2_with fail
                refine (ManyB H7.out.sims.1).mono ?_
                rintro e w8 ⟨rfl, rfl⟩
                go_wp2
                go_ret
                exact ⟨rfl, H7.out.sims.1.below⟩
              | cons x r =>
                have hx2 := Hall.out x (by simp)
                obtain ⟨xt, xi, xs⟩ := x
                simp only at hx2
                go_wp2_with fail
                refine (NextTwo HT2.out).mono ?_
                rintro e w7 ⟨rfl, h7, _⟩
                simp only
                go_upto_region 23 with fail
                have h8 := h7.stillE (Only.alloc w7 (.cells #[.int .i64 xt, .int .i64 xi] 31) (fun _ => False))
                have hb8 := heap_alloc_new w7 (.cells #[.int .i64 xt, .int .i64 xi] 31)
                generalize w7.alloc (.cells #[.int .i64 xt, .int .i64 xi] 31) = w8 at h8 hb8 ⊢
                generalize w7.heap.size = bx at *
                have y0 : w8.cell? ⟨bx, 0, none⟩ = some (.int .i64 xt) := by simp only [World.cell?, hb8]; rfl
                have H8 : Hid (TwoB w w8 S (⟨xt, xi, xs⟩ :: r) D P T r xt P) := Lib.hid ⟨F, G, h8⟩
                clear h7 h8 hb8
                go_wp2_with fail
                refine (NowB H8.out.sims.1).mono ?_
                rintro e w9 ⟨rfl, rfl⟩
                go_wp2
                go_ret
                exact ⟨rfl, H8.out.sims.1.below⟩
        · have hno := fun W (F : Nat → Prop) (hs : SimQ W w.heap.size S F q 0 P) => Until_no S w.heap.size F q 0 P D W hs hc
          have hd : D < 0 ∨ (0 ≤ D ∧ 1000000 < D) := by
            unfold untilC at hc
            by_cases h : D < 0 ∨ 1000000 < D
            · omega
            · rw [if_neg h] at hc
              by_cases h' : D < 0
              · omega
              · rw [if_neg h'] at hc; omega
          have hU : Calls Try.prog 12 #[.pointer (some ⟨S, 0, none⟩), .int .i64 D] wr fun e w' => e = .returned (.tuple #[.slice none 0 0, .iface 56 (.int .i64 (untilC 0 D))]) ∧ wr = w' := by
            obtain ⟨F, G, h⟩ := HR.out
            exact hno wr F h.s
          have HU := Lib.hid hU
          clear hc hno hU
          generalize untilC 0 D = cc at *
          rcases hd with hd | ⟨hd0, hd⟩
          · go_wp2_with fail
            refine HU.out.mono ?_
            rintro e w5 ⟨rfl, rfl⟩
            go_wp2_with fail
            refine (NowB HR.out.sims.1).mono ?_
            rintro e w6 ⟨rfl, rfl⟩
            go_wp2
            go_ret
            exact ⟨rfl, HR.out.sims.1.below⟩
          · go_wp2_with fail
            refine HU.out.mono ?_
            rintro e w5 ⟨rfl, rfl⟩
            go_wp2_with fail
            refine (NowB HR.out.sims.1).mono ?_
            rintro e w6 ⟨rfl, rfl⟩
            go_wp2
            go_ret
            exact ⟨rfl, HR.out.sims.1.below⟩
end Go.Proofs.Ytcdmbbnenljnlaa
