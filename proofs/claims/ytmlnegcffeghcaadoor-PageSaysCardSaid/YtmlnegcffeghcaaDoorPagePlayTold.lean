/- WALK: play by a script. -/
import Derived.Test.YtmlnegcffeghcaaDoorPageTold
namespace Go.Proofs.YtmlnegcffeghcaaDoor
open Go Go.RowKit PagePlain Go.Maps

theorem script_ahead (v : Value) (w : World) : (nilAhead 245 50 (.agg #[v]) "rickstead/page.goes").run Tryd.prog w = .ok (some false) w := by kernel_rfl
theorem script_ahead2 (v : Value) (w : World) : (nilAhead 245 50 (.agg #[v]) "rickstead/page.met").run Tryd.prog w = .ok (some false) w := by kernel_rfl
theorem script_goes_at (v : Value) (w : World) : (Go.method 245 50 (.agg #[v]) "rickstead/page.goes").run Tryd.prog w = .ok (53, .agg #[v]) w := by kernel_rfl
theorem script_met_at (v : Value) (w : World) : (Go.method 245 50 (.agg #[v]) "rickstead/page.met").run Tryd.prog w = .ok (54, .agg #[v]) w := by kernel_rfl

/-- what a round keeps -/
structure ToldRel (f : Nat) (asks picks : List Int) (w : World) (k : Nat) (ah : Option Addr) (caph : Nat) (wr : World) : Prop where
  own : Own wr (w.heap.size + 1) 3 ah caph (hnd f asks (KTold picks) k)
  row : wr.rowIs w.heap.size 4 asks.length (bitf asks (hnd f asks (KTold picks)) k)
  only : Only w wr (fun _ => False)

/-- the same, but for the k-th bit -/
structure ToldMid (f : Nat) (asks picks : List Int) (w : World) (k : Nat) (ah : Option Addr) (caph : Nat) (xs : List Int) (wr : World) : Prop where
  own : Own wr (w.heap.size + 1) 3 ah caph xs
  row : wr.rowIs w.heap.size 4 asks.length (bitf asks (hnd f asks (KTold picks)) (k + 1))
  only : Only w wr (fun _ => False)
theorem ToldMid.bit {f : Nat} {asks picks : List Int} {w : World} {k : Nat} {ah : Option Addr} {caph : Nat} {xs : List Int} {wr : World} (R : ToldMid f asks picks w k ah caph xs wr) (hk : k < asks.length) :
    wr.cell? ⟨w.heap.size, k, none⟩ = some (.bool (decide (pg asks k ∉ hnd f asks (KTold picks) k))) := by
  rw [R.row.cell hk]; unfold bitf; simp
theorem ToldRel.start {f : Nat} {asks picks : List Int} {w : World} : ToldRel f asks picks w 0 none 0 (w.alloc (.cells (madeCells #[.bool false] asks.length) 4)) :=
  ⟨Own.nil _ _ _, (World.rowIs_made w (.bool false) asks.length 4).congr (fun j _ => by unfold bitf; simp), Only.alloc _ _ _⟩
theorem ToldRel.set {f : Nat} {asks picks : List Int} {w : World} {k : Nat} {ah : Option Addr} {caph : Nat} {wr : World} (R : ToldRel f asks picks w k ah caph wr) (b : Bool) (hb : b = decide (pg asks k ∉ hnd f asks (KTold picks) k)) :
    ToldMid f asks picks w k ah caph (hnd f asks (KTold picks) k) (wr.setCell ⟨w.heap.size, k, none⟩ (.bool b)) := by
  subst hb
  exact ⟨R.own.below (p := ⟨w.heap.size, k, none⟩) (Nat.lt_succ_self _) _, bitf_set R.row, R.only.above (Nat.le_refl _) _⟩
theorem ToldMid.next {f : Nat} {asks picks : List Int} {w : World} {k : Nat} {ah : Option Addr} {caph : Nat} {ys : List Int} {w3 w4 : World} (M : ToldMid f asks picks w k ah caph ys w3) (hys : hnd f asks (KTold picks) (k + 1) = ys)
    (hb : Below w3.heap.size w3 w4) : ToldRel f asks picks w (k + 1) ah caph w4 := by
  refine ⟨?_, M.row.of_block (hb.block _ M.row.lt), M.only.trans (Only.of_below _ hb) (fun _ _ h => h)⟩
  rw [hys]
  exact M.own.same fun j hj => hb.block j (M.own.lt j hj).2
theorem ToldMid.below {f : Nat} {asks picks : List Int} {w : World} {k : Nat} {ah : Option Addr} {caph : Nat} {ys : List Int} {w3 w4 : World} (M : ToldMid f asks picks w k ah caph ys w3) (hb : Below w3.heap.size w3 w4) : ToldMid f asks picks w k ah caph ys w4 :=
  ⟨M.own.same fun j hj => hb.block j (M.own.lt j hj).2, M.row.of_block (hb.block _ M.row.lt), M.only.trans (Only.of_below _ hb) (fun _ _ h => h)⟩
theorem ToldMid.put {f : Nat} {asks picks : List Int} {w : World} {k : Nat} {h : Nat} {caph : Nat} {ys : List Int} {w3 : World} (M : ToldMid f asks picks w k (some ⟨h, 0, none⟩) caph ys w3) (hh : w.heap.size < h) (j : Nat) (v : Int) :
    ToldMid f asks picks w k (some ⟨h, 0, none⟩) caph (ys.set j v) (w3.setCell ⟨h, j, none⟩ (.int .i64 v)) :=
  ⟨M.own.set j v, M.row.setOther (a := ⟨h, j, none⟩) (by show w.heap.size ≠ h; omega) _, M.only.above (a := ⟨h, j, none⟩) (by show w.heap.size ≤ h; omega) _⟩
theorem ToldMid.more {f : Nat} {asks picks : List Int} {w : World} {k : Nat} {ah ah' : Option Addr} {caph caph' : Nat} {ys zs : List Int} {w3 w4 : World} (M : ToldMid f asks picks w k ah caph ys w3) (ho : Own w4 (w.heap.size + 1) 3 ah' caph' zs) (hb : Below (w.heap.size + 1) w3 w4) :
    ToldMid f asks picks w k ah' caph' zs w4 :=
  ⟨ho, M.row.of_block (hb.block _ (Nat.lt_succ_self _)), ⟨hb.os.trans M.only.os, hb.tape.trans M.only.tape, hb.output.trans M.only.output, Nat.le_trans M.only.size hb.size, fun j hj hn => (hb.block j (by omega)).trans (M.only.block j hj hn)⟩⟩

set_option maxRecDepth 100000 in
set_option maxHeartbeats 2000000 in
theorem play_told (f : Nat) (asks picks : List Int) (a ap : Option Addr) (cap capp : Nat) (w : World) (hx : ∀ w', Only w w' (fun _ => False) → Ints w' a asks) (hF : FineP f asks) (hy : ∀ w', Only w w' (fun _ => False) → Ints w' ap picks) (hlp : picks.length ≤ 9223372036854775807) (hwf : ∀ n ∈ picks, -9223372036854775808 ≤ n ∧ n ≤ 9223372036854775807) :
    Calls Tryd.prog 19 #[.int .i64 f, .slice a asks.length cap, .iface 50 (.agg #[.slice ap picks.length capp])] w fun e w' =>
      e = .returned (.tuple #[.slice (some ⟨w.heap.size, 0, none⟩) asks.length asks.length, .nilIface]) ∧ BRow w' w.heap.size asks.length (missL asks (hnd f asks (KTold picks))) ∧ Only w w' (fun _ => False) := by
  obtain ⟨i0, hi, hz0, hz1, hz2⟩ := info_parts intInfo
  have r1 := hF.r1
  have r2 := hF.r2
  have h60 := hF.short
  have hC := Lib.hid (checkP_yes asks f a cap w (hx w (Only.refl _ _)) hF)
  have hmk := fun w => run_make_row' (P := Tryd.prog) 28 4 (.bool false) 1 Tryd.underlying28 (by kernel_rfl) rfl .i64 .i64 asks.length (by omega) (by omega) w
  go_enter Tryd.func19, Tryd.ntmps19
  go_wp2_with fail
  refine hC.out.mono ?_
  rintro e w1 ⟨rfl, rfl⟩
  go_wp2
  go_loopw [9, 24] (fun hand i wr => ∃ (k : Nat) (ah : Option Addr) (caph : Nat), i = .int .i64 k ∧ k ≤ asks.length ∧ hand = .slice ah (hnd f asks (KTold picks) k).length caph ∧ ToldRel f asks picks w k ah caph wr) (fun _ i _ => asks.length - (intOf i).toNat)
  case atStart => exact ⟨0, none, 0, rfl, Nat.zero_le _, rfl, ToldRel.start⟩
  case round =>
    obtain ⟨k, ah, caph, rfl, hk, rfl, R⟩ := hrel
    rcases Nat.lt_or_ge k asks.length with hlt | hge
    · obtain ⟨b, off, rfl, hc⟩ := (hx _ R.only).open (by omega)
      have hcon := contains_any (hnd f asks (KTold picks) k) (pg asks k) ah caph wr R.own.ints (by have := hnd_len f asks (KTold picks) k; omega)
      have hck : wr.cell? ⟨b, off + k, none⟩ = some (.int .i64 (pg asks k)) := hc k hlt
      have hp : 0 ≤ pg asks k ∧ pg asks k ≤ 1000000 := hF.all _ (PagePlain.getD_in hlt)
      have hset := fun b h => R.set b h
      have c1 := R.row.cell hlt
      have f1 := R.row.frozen k
      have hHl := hnd_len f asks (KTold picks) k
      have HC := Lib.hid hcon
      have HR := Lib.hid R
      have HS := Lib.hid hset
      clear hcon R hset hc
      have hMet := fun w3 b' => script_met (.slice ap picks.length capp) (pg asks k) k b' w3
      have HMet := Lib.hid hMet
      clear hMet
      have hA := script_ahead2 (.slice ap picks.length capp)
      have hM := script_met_at (.slice ap picks.length capp)
      by_cases hm : pg asks k ∈ hnd f asks (KTold picks) k
      · rw [decide_eq_true hm] at HC
        have R2 := HS.out false (by rw [decide_eq_false (by simpa using hm)])
        have HR2 := Lib.hid R2
        have HB := Lib.hid (fun w2 (R : ToldMid f asks picks w k ah caph (hnd f asks (KTold picks) k) w2) => (R.bit hlt).trans (by rw [decide_eq_false (by simpa using hm)]))
        have HN := Lib.hid (show hnd f asks (KTold picks) (k + 1) = hnd f asks (KTold picks) k by rw [hnd_succ]; unfold nxt; rw [if_pos hm])
        have HNx := Lib.hid (fun ys w3 w4 (M : ToldMid f asks picks w k ah caph ys w3) => M.next (w4 := w4))
        clear hm R2 HS
        generalize pg asks k = p at *
        generalize hnd f asks (KTold picks) k = xs at *
        go_wp2_with fail
        refine HC.out.mono ?_
        rintro e w2 ⟨rfl, rfl⟩
        go_wp2
        obtain ⟨w2, hw2⟩ : ∃ w2, w2 = wr.setCell ⟨w.heap.size, k, none⟩ (.bool false) := ⟨_, rfl⟩
        rw [← hw2] at HR2 ⊢
        clear hw2
        have c2 := HB.out w2 HR2.out
        clear c1 f1 hck
        go_still_tail 10, (by kernel_rfl)
        change wpList _ _ _ _ _ w2.drew
        have R3 : ToldMid f asks picks w k ah caph xs w2.drew := HR2.out.below (drewN_below (Below.refl _ _) 1)
        have HR3 := Lib.hid R3
        generalize w2.drew = w3 at HR3 ⊢
        have c3 := HB.out w3 HR3.out
        clear R3 c2 HR2
        go_wp2_with fail
        refine (HMet.out w3 false).mono ?_
        rintro e w4 ⟨rfl, h2⟩
        have HR4 := Lib.hid (HNx.out xs w3 w4 HR3.out HN.out h2)
        clear h2 c3
        go_wp2
        go_roundw
        case rel => exact ⟨k + 1, ah, caph, by go_num, by omega, by rw [HN.out], HR4.out⟩
        case measure => simp only [intOf]; omega
      · rw [decide_eq_false hm] at HC
        have R2 := HS.out true (by rw [decide_eq_true hm])
        have HR2 := Lib.hid R2
        have HB := Lib.hid (fun a c ys w2 (R : ToldMid f asks picks w k a c ys w2) => (R.bit hlt).trans (by rw [decide_eq_true hm]))
        have hPg : Pages (hnd f asks (KTold picks) k) := hnd_pages hF hk
        have HPg := Lib.hid hPg
        have HNx := Lib.hid (fun a c ys w3 w4 (M : ToldMid f asks picks w k a c ys w3) => M.next (w4 := w4))
        clear R2 HS hPg
        rcases Nat.lt_or_ge (hnd f asks (KTold picks) k).length f with hlf | hlf
        · have HN := Lib.hid (show hnd f asks (KTold picks) (k + 1) = hnd f asks (KTold picks) k ++ [pg asks k] by rw [hnd_succ]; unfold nxt; rw [if_neg hm, if_neg (by omega)])
          have hne : (((hnd f asks (KTold picks) k).length : Int) == (f : Int)) = false := by rw [beq_eq_false_iff_ne]; omega
          clear hm
          generalize pg asks k = p at *
          generalize hnd f asks (KTold picks) k = xs at *
          go_wp2_with fail
          refine HC.out.mono ?_
          rintro e w2 ⟨rfl, rfl⟩
          obtain ⟨w2, hw2⟩ : ∃ w2, w2 = wr.setCell ⟨w.heap.size, k, none⟩ (.bool true) := ⟨_, rfl⟩
          rw [← hw2] at HR2
          have c2 := HB.out _ _ _ w2 HR2.out
          have hsz : w.heap.size + 1 ≤ w2.heap.size := HR2.out.row.lt
          have HW := Lib.hid hw2
          have HPost := Lib.hid (page_post xs (w.heap.size + 1) p ah caph w2 hsz HR2.out.own)
          have HOwn := Lib.hid HR2.out.own
          clear hck
          clear hw2
          go_wp2_with (at_builtin; refine wpList_append_own _ rfl _ _ 22 rfl (w.heap.size + 1) 3 i0 (.int .i64 0) 1 8 Tryd.underlying22 hi hz0 hz1 hz2 rfl (by decide) (.slice ah xs.length caph) xs.length (xs.map (Value.int .i64)) rfl (World.ownsRow.alloc (by have h := HOwn.out; unfold Own at h; rw [HW.out] at h; exact h) _) ⟨_, 0, none⟩ 1 1 [.int .i64 p] rfl rfl (cell_one_newg _ _ _ _ (by simp)) (by simp [Value.oneCell']) (by unfold maxLen; omega) (by omega) (by have h := hsz; rw [HW.out] at h; simp at h ⊢; omega) ?_; intro v2 w4 own2 gr2 _; obtain ⟨a3, c3, rfl, HO3, b4⟩ := HPost.out v2 w4 own2 (by rw [HW.out]; exact gr2); have HR4 := Lib.hid (HR2.out.more HO3 b4); clear HO3 b4 own2 gr2 HPost HOwn HR2)
          have hz : (xs ++ [p]).length = xs.length + 1 := by simp
          have c4 := HB.out _ _ _ w4 HR4.out
          have Hz := Lib.hid hz
          clear hz
          go_still_tail 10, (by kernel_rfl)
          change wpList _ _ _ _ _ w4.drew
          have R5 : ToldMid f asks picks w k a3 c3 (xs ++ [p]) w4.drew := HR4.out.below (drewN_below (Below.refl _ _) 1)
          have HR5 := Lib.hid R5
          generalize w4.drew = w5 at HR5 ⊢
          have c5 := HB.out _ _ _ w5 HR5.out
          clear R5 c4 HR4
          go_wp2_with fail
          refine (HMet.out w5 true).mono ?_
          rintro e w6 ⟨rfl, h2⟩
          have HR6 := Lib.hid (HNx.out _ _ _ w5 w6 HR5.out HN.out h2)
          clear h2 c5
          go_wp2
          go_roundw
          case rel => exact ⟨k + 1, a3, c3, by go_num, by omega, by rw [HN.out, Hz.out], HR6.out⟩
          case measure => simp only [intOf]; omega
        · have hlen : (hnd f asks (KTold picks) k).length = f := by omega
          have HN := Lib.hid (show hnd f asks (KTold picks) (k + 1) = (hnd f asks (KTold picks) k).set ((whom picks k (hnd f asks (KTold picks) k))) (pg asks k) by rw [hnd_succ]; unfold nxt; rw [if_neg hm, if_pos hlen]; rfl)
          have hne : (((hnd f asks (KTold picks) k).length : Int) == (f : Int)) = true := by rw [beq_iff_eq]; omega
          have hll := whom_lt picks k (h := hnd f asks (KTold picks) k) (by omega)
          have HL := Lib.hid hlen
          clear hm hlen
          generalize pg asks k = p at *
          generalize hnd f asks (KTold picks) k = xs at *
          have hG := script_goes_at (.slice ap picks.length capp)
          have hG0 := script_ahead (.slice ap picks.length capp)
          go_wp2_with fail
          refine HC.out.mono ?_
          rintro e w2 ⟨rfl, rfl⟩
          obtain ⟨w2, hw2⟩ : ∃ w2, w2 = wr.setCell ⟨w.heap.size, k, none⟩ (.bool true) := ⟨_, rfl⟩
          rw [← hw2] at HR2
          have hgo := script_goes picks xs k ap ah capp caph w2 (hy _ HR2.out.only) hlp hwf (by omega) HR2.out.own.ints (by omega) (by omega)
          generalize whom picks k xs = j at hgo hll HN
          obtain ⟨h, rfl, hh1, _, _, _⟩ := HR2.out.own.open (by omega)
          have HGo := Lib.hid hgo
          have HW := Lib.hid hw2
          rw [hw2] at HGo HR2
          clear hgo hw2 hck
          go_wp2_with fail
          refine HGo.out.mono ?_
          rintro e w3 ⟨rfl, b3⟩
          have HR3 := Lib.hid (HR2.out.below b3)
          obtain ⟨h', e1, hh2, hh3, hhc, hhf⟩ := HR3.out.own.open (by omega)
          simp only [Option.some.injEq, Addr.mk.injEq, and_true] at e1
          subst e1
          have cj := hhc j hll
          have fj := hhf j
          have HR4 := Lib.hid (HR3.out.put (by omega) j p)
          have hjI : (j : Int) < xs.length := by omega
          clear b3 hhc hhf HR2 HGo HW
          go_wp2
          obtain ⟨w4, hw4⟩ : ∃ w4, w4 = w3.setCell ⟨h, j, none⟩ (.int .i64 p) := ⟨_, rfl⟩
          rw [← hw4] at HR4 ⊢
          have c4 := HB.out _ _ _ w4 HR4.out
          clear hw4 cj fj HR3 c1 f1
          go_still_tail 10, (by kernel_rfl)
          change wpList _ _ _ _ _ w4.drew
          have R5 : ToldMid f asks picks w k (some ⟨h, 0, none⟩) caph (xs.set j p) w4.drew := HR4.out.below (drewN_below (Below.refl _ _) 1)
          have HR5 := Lib.hid R5
          generalize w4.drew = w5 at HR5 ⊢
          have c5 := HB.out _ _ _ w5 HR5.out
          clear R5 c4 HR4
          go_wp2_with fail
          refine (HMet.out w5 true).mono ?_
          rintro e w6 ⟨rfl, h2⟩
          have HR6 := Lib.hid (HNx.out _ _ _ w5 w6 HR5.out HN.out h2)
          clear h2 c5
          go_wp2
          go_roundw
          case rel => exact ⟨k + 1, some ⟨h, 0, none⟩, caph, by go_num, by omega, by rw [HN.out, List.length_set], HR6.out⟩
          case measure => simp only [intOf]; omega
    · obtain rfl : asks.length = k := by omega
      have h3 : decide (asks.length < asks.length) = false := by simp
      have HR := Lib.hid R
      clear R
      go_wp2
      go_ret2
      exact ⟨rfl, bitf_all HR.out.row, HR.out.only⟩
end Go.Proofs.YtmlnegcffeghcaaDoor
