/- WALKS: the document's Most, Half. -/
import Derived.Test.YtomgcfjdmoefgaaDoorRefSack2
namespace Go.Proofs.YtomgcfjdmoefgaaDoor
open Go Go.RowKit SackPlain
open SortPlain (asInts asInts_length)

/-! ### Most -/
def RMost (l : List Gd) (room : Int) (w : World) (e : Ending) (w' : World) : Prop :=
  ∃ a c, e = .returned (.tuple #[.int .i64 (most l room), .slice a (chosen (told l room) l.length).length c]) ∧ Own w' w.heap.size 3 a c (asInts (chosen (told l room) l.length)) ∧ Below w.heap.size w w'
structure MostR (l : List Gd) (room : Int) (w : World) (i : Nat) (r n : Int) (a : Option Addr) (c : Nat) (wr : World) : Prop where
  r0 : 0 ≤ r
  r1 : r ≤ 300
  n : n = most (l.drop i) r
  rest : (told l room).drop i = told (l.drop i) r
  own : Own wr w.heap.size 3 a c (asInts (chosen (told l room) i))
  bel : Below w.heap.size w wr
theorem asInts_snoc (o : List Nat) (b : Nat) : asInts (o ++ [b]) = asInts o ++ [(b : Int)] := by simp [asInts]
theorem MostR.yes {l : List Gd} {room : Int} {w : World} {i : Nat} {r n : Int} {a : Option Addr} {c : Nat} {wr : World} (h : MostR l room w i r n a c wr) (hi : i < l.length) (hok : Ok l) (hw : wOf l i ≤ r) (he : most (l.drop (i + 1)) (r - wOf l i) + vOf l i = n)
    (v2 : Value) (w4 : World) (own2 : w4.ownsRow w.heap.size 3 1 v2 ((chosen (told l room) i).length + 1) ((asInts (chosen (told l room) i)).map (Value.int .i64) ++ [.int .i64 i])) (gr2 : (wr.alloc (.cells #[.int .i64 i] 3)).grownBy w4 (Value.slice a (chosen (told l room) i).length c).ownBlock) :
    ∃ a' c', v2 = .slice a' (chosen (told l room) (i + 1)).length c' ∧ MostR l room w (i + 1) (r - wOf l i) (n - vOf l i) a' c' w4 := by
  have hst := told_step hi r
  have hr := wv_range hok i
  rw [if_pos ⟨hw, by rw [he]; exact h.n⟩, ← h.rest] at hst
  obtain ⟨t1, t2⟩ := drop_head hst
  have hch : chosen (told l room) (i + 1) = chosen (told l room) i ++ [i] := by rw [chosen_succ, if_pos t1]
  have e : (asInts (chosen (told l room) (i + 1))).map (Value.int .i64) = (asInts (chosen (told l room) i)).map (Value.int .i64) ++ [.int .i64 i] := by rw [hch, asInts_snoc, List.map_append]; rfl
  rw [← e] at own2
  have hb1 : Below w.heap.size w w4 := (h.bel.alloc h.bel.size _).grown gr2 (by have := h.bel.size; simp; omega) fun j hj => by
    have h := h.own.lt j
    rw [asInts_length] at h
    exact (h hj).1
  obtain ⟨a2, c2, rfl, O⟩ := Own.of own2
  rw [asInts_length]
  exact ⟨a2, c2, rfl, by omega, by have := h.r1; omega, by omega, t2, O, hb1⟩
theorem MostR.no {l : List Gd} {room : Int} {w : World} {i : Nat} {r n : Int} {a : Option Addr} {c : Nat} {wr : World} (h : MostR l room w i r n a c wr) (hi : i < l.length) (hn : ¬ (wOf l i ≤ r ∧ most (l.drop (i + 1)) (r - wOf l i) + vOf l i = n)) (q : Nat) :
    (chosen (told l room) (i + 1)).length = (chosen (told l room) i).length ∧ MostR l room w (i + 1) r n a c (wr.drewN q) := by
  have hst := told_step hi r
  rw [if_neg (by rw [← h.n]; exact hn), ← h.rest] at hst
  obtain ⟨t1, t2⟩ := drop_head hst
  have hch : chosen (told l room) (i + 1) = chosen (told l room) i := by rw [chosen_succ, if_neg (by rw [t1]; decide), List.append_nil]
  rw [hch]
  refine ⟨rfl, h.r0, h.r1, ?_, t2, by rw [hch]; exact h.own.drewN q, drewN_below h.bel q⟩
  have h1 := most_step hi r
  have h2 := h.n
  by_cases c : wOf l i ≤ r
  · rw [if_pos c] at h1
    have : ¬ most (l.drop (i + 1)) (r - wOf l i) + vOf l i = n := fun e => hn ⟨c, e⟩
    omega
  · rw [if_neg c] at h1; omega
set_option maxRecDepth 100000 in
set_option maxHeartbeats 4000000 in
theorem rMost_any (l : List Gd) (room : Int) (a : Option Addr) (cap : Nat) (w : World) (hx : Goods w a l) (hok : Ok l) (r0 : 0 ≤ room) (r1 : room ≤ 300) :
    Calls Tryd.prog 44 #[.slice a l.length cap, .int .i64 room] w fun e w' => RMost l room w e w' := by
  have hs := hok.short
  obtain ⟨i0, hi0, hz0, hz1, hz2⟩ := info_parts rIntInfo
  have HM0 := Lib.hid (rmost_any l a cap hok l.length 0 (by omega) room w r0 r1 hx)
  rw [List.drop_zero] at HM0
  have HM : Hid (∀ i, i < l.length → ∀ (r : Int) (W : World), 0 ≤ r → r ≤ 300 → Goods W a l → Calls Tryd.prog 80 #[.slice a l.length cap, .int .i64 ((i : Int) + 1), .int .i64 r] W fun e w' => e = .returned (.int .i64 (most (l.drop (i + 1)) r)) ∧ ∃ m, w' = W.drewN m) :=
    Lib.hid fun i hi r W h0 h1 hx => rmost_any l a cap hok (l.length - (i + 1)) (i + 1) (by omega) r W h0 h1 hx
  have Hok := Lib.hid hok
  have HR0 : Hid (∀ q, MostR l room w 0 room (most l room) none 0 (w.drewN q)) := Lib.hid fun q => ⟨r0, r1, by rw [List.drop_zero], by rw [List.drop_zero, List.drop_zero], Own.nil _ _ _, drewN_below (Below.refl _ _) q⟩
  clear hok
  generalize hM : most l room = M at *
  have HMM := Lib.hid hM
  clear hM
  go_enter Tryd.func44, Tryd.ntmps44
  go_wp2_with fail
  refine HM0.out.mono ?_
  rintro e w1 ⟨rfl, q1, rfl⟩
  go_wp2
  go_loopw [1, 6, 8, 9] (fun rm nn st ii wr => ∃ (i : Nat) (r n : Int) (ao : Option Addr) (co : Nat), ii = .int .i64 i ∧ rm = .int .i64 r ∧ nn = .int .i64 n ∧ st = .slice ao (chosen (told l room) i).length co ∧ i ≤ l.length ∧ MostR l room w i r n ao co wr) (fun _ _ _ ii _ => l.length - (intOf ii).toNat)
  case atStart => exact ⟨0, room, M, none, 0, rfl, rfl, rfl, rfl, Nat.zero_le _, HR0.out q1⟩
  case round =>
    obtain ⟨i, r, n, ao, co, rfl, rfl, rfl, rfl, hi, R⟩ := hrel
    rename World => wk
    have hrr0 := R.r0
    have hrr1 := R.r1
    have hsz := R.bel.size
    rcases Nat.lt_or_ge i l.length with hlt | hge
    · have hx1 := hx.below R.bel
      obtain ⟨b, off, rfl, hbl, hc⟩ := hx1.open (by omega)
      obtain ⟨c0, c1⟩ := hc i hlt
      have ew : (l.getD i g0).w = wOf l i := rfl
      have ev : (l.getD i g0).v = vOf l i := rfl
      rw [ew] at c0
      rw [ev] at c1
      have hiI : (i : Int) < l.length := by omega
      have gr := wv_range Hok.out i
      have g2 := most_range Hok.out (i + 1) (r - wOf l i)
      have gn := most_range Hok.out i r
      rw [← R.n] at gn
      have H2 : Hid (wOf l i ≤ r → ∀ m, Calls Tryd.prog 80 #[.slice (some ⟨b, off, none⟩) l.length cap, .int .i64 ((i : Int) + 1), .int .i64 (r - wOf l i)] (wk.drewN m) fun e w' => e = .returned (.int .i64 (most (l.drop (i + 1)) (r - wOf l i))) ∧ ∃ m', w' = (wk.drewN m).drewN m') :=
        Lib.hid fun hle m => HM.out i hlt (r - wOf l i) (wk.drewN m) (by omega) (by omega) (hx1.drewN m)
      have hcl := chosen_length (told l room) i
      have HN := Lib.hid (fun hn q => R.no hlt hn q)
      have HY : Hid (wOf l i ≤ r → most (l.drop (i + 1)) (r - wOf l i) + vOf l i = n → ∀ q (v2 : Value) (w4 : World), w4.ownsRow w.heap.size 3 1 v2 ((chosen (told l room) i).length + 1) ((asInts (chosen (told l room) i)).map (Value.int .i64) ++ [.int .i64 i]) → ((wk.drewN q).alloc (.cells #[.int .i64 i] 3)).grownBy w4 (Value.slice ao (chosen (told l room) i).length co).ownBlock →
          ∃ a' c', v2 = .slice a' (chosen (told l room) (i + 1)).length c' ∧ MostR l room w (i + 1) (r - wOf l i) (n - vOf l i) a' c' w4) := Lib.hid fun hle he q v2 w4 o2 g2 =>
        MostR.yes (wr := wk.drewN q) ⟨R.r0, R.r1, R.n, R.rest, R.own.drewN q, drewN_below R.bel q⟩ hlt Hok.out hle he v2 w4 o2 g2
      have hown := R.own
      unfold Own at hown
      rw [asInts_length] at hown
      have HOwn := Lib.hid hown
      have HX := Lib.hid (fun (W : World) (hb : Below w.heap.size w W) => hx.below hb)
      clear hown hc ew ev hx1 R
      generalize most (l.drop (i + 1)) (r - wOf l i) = m2 at *
      generalize hwk : wOf l i = wi at *
      generalize hvk : vOf l i = vi at *
      have Hwk := Lib.hid hwk
      have Hvk := Lib.hid hvk
      clear hwk hvk
      rcases Int.lt_or_le r wi with hcw | hcw
      · have hd : decide (wi ≤ r) = false := decide_eq_false (by omega)
        have HN2 := Lib.hid (HN.out (fun h => by omega))
        clear H2 HY HN HOwn
        go_wp2
        go_quiet (fail)
        have HN3 := Lib.hid (HN2.out nq)
        go_wp2
        go_roundw
        case rel => exact ⟨i + 1, r, n, ao, co, by go_num, rfl, rfl, by rw [HN3.out.1], by omega, HN3.out.2⟩
        case measure => simp only [intOf]; omega
      · have H3 := Lib.hid (H2.out hcw)
        by_cases he : m2 + vi = n
        · have heB : (m2 + vi == n) = true := by rw [he]; simp
          have HY2 := Lib.hid (HY.out hcw he)
          clear H2 HY HN he
          go_wp2
          go_quiet (with_reducible exact Calls.quiet_of (H3.out _))
          obtain ⟨w6, hw6⟩ : ∃ w6, w6 = wk.drewN nq := ⟨_, rfl⟩
          have HO6 : Hid (w6.ownsRow w.heap.size 3 1 (.slice ao (chosen (told l room) i).length co) (chosen (told l room) i).length ((asInts (chosen (told l room) i)).map (Value.int .i64))) := Lib.hid (by rw [hw6]; exact HOwn.out)
          have HY3 := Lib.hid (HY2.out nq)
          rw [← hw6] at HY3 ⊢
          have hsz6 : w.heap.size ≤ w6.heap.size := by rw [hw6]; exact hsz
          have HC6 : Hid (∀ (v2 : Value) (w4 : World), MostR l room w (i + 1) (r - wi) (n - vi) ((match v2 with | .slice a _ _ => a | _ => none)) ((match v2 with | .slice _ _ c => c | _ => 0)) w4 → w4.cell? ⟨b, off + i * 2, none⟩ = some (.int .i64 wi) ∧ w4.cell? ⟨b, off + i * 2 + 1, none⟩ = some (.int .i64 vi)) := Lib.hid fun v2 w4 R4 => by
            obtain ⟨b', off', e, _, hc4⟩ := (HX.out w4 R4.bel).open (by omega)
            simp only [Option.some.injEq, Addr.mk.injEq, and_true] at e
            obtain ⟨rfl, rfl⟩ := e
            obtain ⟨d0, d1⟩ := hc4 i hlt
            exact ⟨by rw [d0]; congr 2 <;> exact Hwk.out, by rw [d1]; congr 2 <;> exact Hvk.out⟩
          clear hw6 HOwn HY2 c0 c1
          go_wp2_with (at_builtin; refine wpList_append_own _ rfl _ _ 22 rfl w.heap.size 3 i0 (.int .i64 0) 1 8 Tryd.underlying22 hi0 hz0 hz1 hz2 rfl (by decide) (.slice ao (chosen (told l room) i).length co) (chosen (told l room) i).length ((asInts (chosen (told l room) i)).map (Value.int .i64)) rfl (World.ownsRow.alloc HO6.out _) ⟨_, 0, none⟩ 1 1 [.int .i64 i] rfl rfl (rcell_new _ _ _ _ (by simp)) (by simp [Value.oneCell']) (by unfold maxLen; omega) (by omega) (by simp; omega) ?_; intro v2 w4 own2 gr2 _; obtain ⟨a2, c2, hv2, HR2⟩ := HY3.out v2 w4 own2 gr2; subst hv2; have HR3 := Lib.hid HR2; obtain ⟨d0, d1⟩ := HC6.out (.slice a2 (chosen (told l room) (i + 1)).length c2) w4 HR2; clear HR2 own2 gr2)
          go_roundw
          case rel => exact ⟨i + 1, r - wi, n - vi, a2, c2, by go_num, rfl, rfl, rfl, by omega, HR3.out⟩
          case measure => simp only [intOf]; omega
        · have heB : (m2 + vi == n) = false := by rw [beq_eq_false_iff_ne]; exact he
          have HN2 := Lib.hid (HN.out (fun h => he h.2))
          clear H2 HY HN HOwn he
          go_wp2
          go_quiet (with_reducible exact Calls.quiet_of (H3.out _))
          have HN3 := Lib.hid (HN2.out nq)
          go_wp2
          go_roundw
          case rel => exact ⟨i + 1, r, n, ao, co, by go_num, rfl, rfl, by rw [HN3.out.1], by omega, HN3.out.2⟩
          case measure => simp only [intOf]; omega
    · obtain rfl : l.length = i := by omega
      have h3 : decide (l.length < l.length) = false := by simp
      have HR := Lib.hid R
      clear R
      go_wp2
      go_ret2
      exact ⟨ao, co, by rw [HMM.out]; rfl, HR.out.own, HR.out.bel⟩
end Go.Proofs.YtomgcfjdmoefgaaDoor
