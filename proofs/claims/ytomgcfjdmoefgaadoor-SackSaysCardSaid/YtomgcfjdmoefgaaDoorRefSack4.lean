/- WALK: the document's Half. -/
import Derived.Test.YtomgcfjdmoefgaaDoorRefSack2
namespace Go.Proofs.YtomgcfjdmoefgaaDoor
open Go Go.RowKit SackPlain
open SortPlain (asInts asInts_length)

def flatGd (l : List Gd) : List Value := l.flatMap fun g => [.int .i64 g.w, .int .i64 g.v]
theorem flatGd_snoc (l : List Gd) (g : Gd) : flatGd (l ++ [g]) = flatGd l ++ [.int .i64 g.w, .int .i64 g.v] := by simp [flatGd]
theorem flatGd_get : ∀ (l : List Gd) (i : Nat), i < l.length → (flatGd l)[i * 2]? = some (.int .i64 (l.getD i g0).w) ∧ (flatGd l)[i * 2 + 1]? = some (.int .i64 (l.getD i g0).v)
  | [], i, h => by simp at h
  | g :: l, 0, _ => by simp [flatGd]
  | g :: l, i + 1, h => by
    have ih := flatGd_get l i (by simpa using h)
    rw [show flatGd (g :: l) = [.int .i64 g.w, .int .i64 g.v] ++ flatGd l from rfl, List.getElem?_append_right (by simp; omega), List.getElem?_append_right (by simp; omega)]
    rw [show (i + 1) * 2 - [Value.int .i64 g.w, .int .i64 g.v].length = i * 2 by simp; omega, show (i + 1) * 2 + 1 - [Value.int .i64 g.w, .int .i64 g.v].length = i * 2 + 1 by simp; omega, ih.1, ih.2]
    simp
theorem goods_of {w : World} {B n cap : Nat} {a : Option Addr} {l : List Gd} (hn : n = l.length) (h : w.ownsRow B 100 2 (.slice a n cap) n (flatGd l)) : Goods w a l := by
  subst hn
  by_cases h0 : l.length = 0
  · exact .inl (List.eq_nil_of_length_eq_zero h0)
  rcases h.2 with ⟨_, hz⟩ | ⟨g, cap', cur, h', hb, hg, hc, hm, hs, ht⟩
  · omega
  · simp only [Value.slice.injEq, true_and] at h'
    obtain ⟨rfl, rfl⟩ := h'
    refine .inr ⟨g, 0, rfl, lt_of_block hg, fun i hi => ?_⟩
    obtain ⟨f1, f2⟩ := flatGd_get l i hi
    have h1 : (cur.toList.take (l.length * 2))[i * 2]? = (flatGd l)[i * 2]? := by rw [ht]
    have h2 : (cur.toList.take (l.length * 2))[i * 2 + 1]? = (flatGd l)[i * 2 + 1]? := by rw [ht]
    rw [List.getElem?_take_of_lt (by omega)] at h1 h2
    rw [Nat.zero_add]
    refine ⟨?_, ?_⟩
    · rw [cell_of_row w g (i * 2) cur _ (0, 0) hg, ← Array.getElem?_toList, h1]; exact f1
    · rw [cell_of_row w g (i * 2 + 1) cur _ (0, 0) hg, ← Array.getElem?_toList, h2]; exact f2
theorem goodInfo : (Tryd.prog.info? 100).map (fun i => (i.zero, i.size, i.bytes)) = some (some (.agg #[.int .i64 0, .int .i64 0]), 2, 16) := by kernel_rfl
theorem gcell_new (w : World) (x y : Int) (t : TypeId) (g : Nat) (hg : g = w.heap.size) : ∀ j u, [Value.int .i64 x, .int .i64 y][j]? = some u → (w.alloc (.cells #[.int .i64 x, .int .i64 y] t)).cell? ((⟨g, 0, none⟩ : Addr).add j) = some u := by
  subst hg
  intro j u hu
  have h : (w.alloc (.cells #[.int .i64 x, .int .i64 y] t)).heap[w.heap.size]? = some (.cells #[.int .i64 x, .int .i64 y] t (0, 0)) := heap_alloc_new w _
  have e : ((⟨w.heap.size, 0, none⟩ : Addr).add j) = ⟨w.heap.size, j, none⟩ := by unfold Addr.add; split <;> simp_all
  rw [e, cell_of_row _ _ _ _ _ _ h]
  rw [← Array.getElem?_toList]; exact hu
/-- what the loop keeps -/
structure HalfR (l : List Gd) (room : Int) (w : World) (k : Nat) (one : Int) (a : Option Addr) (c : Nat) (wr : World) : Prop where
  one : IsOne l room k one
  own : wr.ownsRow w.heap.size 100 2 (.slice a (fitG l room k).length c) (fitG l room k).length (flatGd (fitG l room k))
  bel : Below w.heap.size w wr
theorem HalfR.no {l : List Gd} {room : Int} {w : World} {k : Nat} {one : Int} {a : Option Addr} {c : Nat} {wr : World} (h : HalfR l room w k one a c wr) (hw : room < wOf l k) : (fitG l room (k + 1)).length = (fitG l room k).length ∧ HalfR l room w (k + 1) one a c wr := by
  rw [fitG_no hw]
  exact ⟨rfl, h.one.no hw, by rw [fitG_no hw]; exact h.own, h.bel⟩
theorem HalfR.yes {l : List Gd} {room : Int} {w : World} {k : Nat} {one : Int} {a : Option Addr} {c : Nat} {wr : World} (h : HalfR l room w k one a c wr) (hw : wOf l k ≤ room) (hv : 0 ≤ vOf l k)
    (v2 : Value) (w4 : World) (own2 : w4.ownsRow w.heap.size 100 2 v2 ((fitG l room k).length + 1) (flatGd (fitG l room k) ++ [.int .i64 (wOf l k), .int .i64 (vOf l k)])) (gr2 : (wr.alloc (.cells #[.int .i64 (wOf l k), .int .i64 (vOf l k)] 100)).grownBy w4 (Value.slice a (fitG l room k).length c).ownBlock) :
    ∃ a' c', v2 = .slice a' (fitG l room (k + 1)).length c' ∧ HalfR l room w (k + 1) (max one (vOf l k)) a' c' w4 := by
  have e : fitG l room (k + 1) = fitG l room k ++ [l.getD k g0] := fitG_yes hw
  have el : (fitG l room (k + 1)).length = (fitG l room k).length + 1 := by rw [e]; simp
  have ef : flatGd (fitG l room (k + 1)) = flatGd (fitG l room k) ++ [.int .i64 (wOf l k), .int .i64 (vOf l k)] := by rw [e, flatGd_snoc]; rfl
  have hb1 : Below w.heap.size w w4 := (h.bel.alloc h.bel.size _).grown gr2 (by have := h.bel.size; simp; omega) fun j hj => (World.ownsRow.lt h.own j hj).1
  have o3 := own2
  rw [← ef, ← el] at o3
  rcases own2.2 with ⟨_, hz⟩ | ⟨g, c', cur, rfl, _⟩
  · omega
  · exact ⟨_, _, by rw [el], h.one.yes hv hw, by rw [el] at o3 ⊢; exact o3, hb1⟩
def RHalf (l : List Gd) (room : Int) (w : World) (e : Ending) (w' : World) : Prop :=
  ∃ one ord wh p o, e = .returned (.int .i64 (max one wh)) ∧ IsOne l room l.length one ∧ GSort.Falls (dearR (fitG l room l.length)) (fitG l room l.length).length ord ∧ CutRes (wOf (fitG l room l.length)) (vOf (fitG l room l.length)) ord room wh p o ∧ Below w.heap.size w w'
set_option maxRecDepth 100000 in
set_option maxHeartbeats 4000000 in
theorem rhalf_any (l : List Gd) (room : Int) (a : Option Addr) (cap : Nat) (w : World) (hx : Goods w a l) (hok : Ok l) (r0 : 0 ≤ room) (r1 : room ≤ 300) :
    Calls Tryd.prog 45 #[.slice a l.length cap, .int .i64 room] w fun e w' => RHalf l room w e w' := by
  have hs := hok.short
  obtain ⟨i0, hi0, hz0, hz1, hz2⟩ := info_parts goodInfo
  have Hok := Lib.hid hok
  clear hok
  go_enter Tryd.func45, Tryd.ntmps45
  go_wp2
  go_loopw [5, 6, 7] (fun on ft ii wr => ∃ (k : Nat) (one : Int) (ao : Option Addr) (co : Nat), ii = .int .i64 k ∧ on = .int .i64 one ∧ ft = .slice ao (fitG l room k).length co ∧ k ≤ l.length ∧ one ≤ 1000 ∧ HalfR l room w k one ao co wr) (fun _ _ ii _ => l.length - (intOf ii).toNat)
  case atStart => exact ⟨0, 0, none, 0, rfl, rfl, rfl, Nat.zero_le _, by decide, ⟨.inl rfl, Int.le_refl _, fun i hi => by omega⟩, World.ownsRow_nil _ _ _ _, Below.refl _ _⟩
  case round =>
    obtain ⟨k, one, ao, co, rfl, rfl, rfl, hk, h1000, R⟩ := hrel
    rename World => wk
    have hsz := R.bel.size
    have hone0 := R.one.2.1
    rcases Nat.lt_or_ge k l.length with hlt | hge
    · have hx1 := hx.below R.bel
      obtain ⟨b, off, rfl, hbl, hc⟩ := hx1.open (by omega)
      obtain ⟨c0, c1⟩ := hc k hlt
      have ew : (l.getD k g0).w = wOf l k := rfl
      have ev : (l.getD k g0).v = vOf l k := rfl
      rw [ew] at c0
      rw [ev] at c1
      have hkI : (k : Int) < l.length := by omega
      have gr := wv_range Hok.out k
      have hfl := fitG_length l room k
      have HN := Lib.hid (fun h => R.no h)
      have HY := Lib.hid (fun h1 h2 => R.yes h1 h2)
      have HOwn := Lib.hid R.own
      have HX := Lib.hid (fun (W : World) (hb : Below w.heap.size w W) => hx.below hb)
      clear hc ew ev hx1 R
      generalize hwk : wOf l k = wi at *
      generalize hvk : vOf l k = vi at *
      have Hwk := Lib.hid hwk
      have Hvk := Lib.hid hvk
      clear hwk hvk
      rcases Int.lt_or_le room wi with hcw | hcw
      · have hd : decide (wi ≤ room) = false := decide_eq_false (by omega)
        have HN2 := Lib.hid (HN.out hcw)
        clear HY HN HOwn
        go_wp2
        go_roundw
        case rel => exact ⟨k + 1, one, ao, co, by go_num, rfl, by rw [HN2.out.1], by omega, h1000, HN2.out.2⟩
        case measure => simp only [intOf]; omega
      · have HY2 := Lib.hid (HY.out hcw gr.2.2.1)
        have HC6 : Hid (∀ (a' : Option Addr) (c' : Nat) (w4 : World), HalfR l room w (k + 1) (max one vi) a' c' w4 → w4.cell? ⟨b, off + k * 2, none⟩ = some (.int .i64 wi) ∧ w4.cell? ⟨b, off + k * 2 + 1, none⟩ = some (.int .i64 vi)) := Lib.hid fun a' c' w4 R4 => by
          obtain ⟨b', off', e, _, hc4⟩ := (HX.out w4 R4.bel).open (by omega)
          simp only [Option.some.injEq, Addr.mk.injEq, and_true] at e
          obtain ⟨rfl, rfl⟩ := e
          obtain ⟨d0, d1⟩ := hc4 k hlt
          exact ⟨by rw [d0]; congr 2 <;> exact Hwk.out, by rw [d1]; congr 2 <;> exact Hvk.out⟩
        clear HY HN
        rcases Int.lt_or_le one vi with hm | hm
        · have hmx : max one vi = vi := by omega
          rw [hmx] at HY2 HC6
          clear hmx
          go_wp2_with (at_builtin; refine wpList_append_own _ rfl _ _ 65 rfl w.heap.size 100 i0 (.agg #[.int .i64 0, .int .i64 0]) 2 16 Tryd.underlying65 hi0 hz0 hz1 hz2 rfl (by decide) (.slice ao (fitG l room k).length co) (fitG l room k).length (flatGd (fitG l room k)) rfl (World.ownsRow.alloc HOwn.out _) ⟨_, 0, none⟩ 1 1 [.int .i64 wi, .int .i64 vi] rfl rfl (gcell_new _ _ _ _ _ (by simp)) (by simp [Value.oneCell']) (by unfold maxLen; omega) (by omega) (by simp; omega) ?_; intro v2 w4 own2 gr2 _; obtain ⟨a2, c2, hv2, HR2⟩ := HY2.out v2 w4 own2 gr2; subst hv2; have HR3 := Lib.hid HR2; obtain ⟨d0, d1⟩ := HC6.out _ _ w4 HR2; clear HR2 own2 gr2)
          go_roundw
          case rel => exact ⟨k + 1, vi, a2, c2, by go_num, rfl, rfl, by omega, by omega, HR3.out⟩
          case measure => simp only [intOf]; omega
        · have hmx : max one vi = one := by omega
          rw [hmx] at HY2 HC6
          clear hmx
          go_wp2_with (at_builtin; refine wpList_append_own _ rfl _ _ 65 rfl w.heap.size 100 i0 (.agg #[.int .i64 0, .int .i64 0]) 2 16 Tryd.underlying65 hi0 hz0 hz1 hz2 rfl (by decide) (.slice ao (fitG l room k).length co) (fitG l room k).length (flatGd (fitG l room k)) rfl (World.ownsRow.alloc HOwn.out _) ⟨_, 0, none⟩ 1 1 [.int .i64 wi, .int .i64 vi] rfl rfl (gcell_new _ _ _ _ _ (by simp)) (by simp [Value.oneCell']) (by unfold maxLen; omega) (by omega) (by simp; omega) ?_; intro v2 w4 own2 gr2 _; obtain ⟨a2, c2, hv2, HR2⟩ := HY2.out v2 w4 own2 gr2; subst hv2; have HR3 := Lib.hid HR2; obtain ⟨d0, d1⟩ := HC6.out _ _ w4 HR2; clear HR2 own2 gr2)
          go_roundw
          case rel => exact ⟨k + 1, one, a2, c2, by go_num, rfl, rfl, by omega, h1000, HR3.out⟩
          case measure => simp only [intOf]; omega
    · obtain rfl : l.length = k := by omega
      have h3 : decide (l.length < l.length) = false := by simp
      have hF : Goods wk ao (fitG l room l.length) := goods_of rfl R.own
      have HC := Lib.hid (rcut_any (fitG l room l.length) room ao co wk hF (fitG_ok Hok.out room) r0 r1)
      have HO1 := Lib.hid R.one
      have Hbel := Lib.hid R.bel
      clear hF R
      go_wp2_with fail
      refine HC.out.mono ?_
      rintro e w2 ⟨ord, wh, p, o, rfl, hFa, hCu, hwr, b2⟩
      have HFa := Lib.hid hFa
      have HCu := Lib.hid hCu
      have HB := Lib.hid (Hbel.out.trans (b2.mono hsz))
      clear hFa hCu b2
      rcases Int.lt_or_le one wh with hm | hm
      · have HM := Lib.hid (show wh = max one wh by omega)
        go_wp2
        go_ret
        exact ⟨one, ord, wh, p, o, ret_int HM.out, HO1.out, HFa.out, HCu.out, HB.out⟩
      · have HM := Lib.hid (show one = max one wh by omega)
        go_wp2
        go_ret
        exact ⟨one, ord, wh, p, o, ret_int HM.out, HO1.out, HFa.out, HCu.out, HB.out⟩
end Go.Proofs.YtomgcfjdmoefgaaDoor
