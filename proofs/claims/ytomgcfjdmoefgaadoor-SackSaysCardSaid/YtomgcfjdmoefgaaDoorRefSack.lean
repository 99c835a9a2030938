/- WALKS: the document's Goods, By (the dearer first), dear. -/
import Derived.Test.YtomgcfjdmoefgaaDoorRefSackPlain
import Derived.Test.YtomgcfjdmoefgaaDoorRefJobs
import Derived.Deep.RegionLaw
import Derived.Deep.AppendLies
namespace Go.Proofs.YtomgcfjdmoefgaaDoor
open Go Go.RowKit Go.BigFrame SackPlain
open SortPlain (asInts asInts_length)

theorem rin5_yes (n lo hi : Int) (h1 : lo ≤ n) (h2 : n ≤ hi) (w : World) : Calls Tryd.prog 57 #[.int .i64 n, .int .i64 lo, .int .i64 hi] w fun e w' => e = .returned (.bool true) ∧ w = w' := by
  go_enter Tryd.func57, Tryd.ntmps57
  go_wp2
  go_ret
  exact ⟨rfl, rfl⟩
theorem rin5_no (n lo hi : Int) (h : n < lo ∨ hi < n) (w : World) : Calls Tryd.prog 57 #[.int .i64 n, .int .i64 lo, .int .i64 hi] w fun e w' => e = .returned (.bool false) ∧ w = w' := by
  rcases Int.lt_or_le n lo with h1 | h1
  · clear h
    go_enter Tryd.func57, Tryd.ntmps57
    go_wp2
    go_ret
    exact ⟨rfl, rfl⟩
  · have h2 : hi < n := by omega
    have h3 : decide (n ≤ hi) = false := decide_eq_false (by omega)
    clear h
    go_enter Tryd.func57, Tryd.ntmps57
    go_wp2
    go_ret
    exact ⟨rfl, rfl⟩

set_option maxHeartbeats 1000000 in
theorem rgoods_any (l : List Gd) (room : Int) (a : Option Addr) (cap : Nat) (w : World) (hx : Goods w a l) (hl : l.length ≤ 9223372036854775807) :
    Calls Tryd.prog 41 #[.slice a l.length cap, .int .i64 room] w fun e w' => e = .returned (.int .i64 (chkG l room)) ∧ ∃ q, w' = w.drewN q := by
  by_cases h1 : 16 < l.length
  · have e : chkG l room = 4 := by unfold chkG; rw [if_pos h1]
    rw [e]
    clear e
    have h1' : (16 : Int) < l.length := by omega
    go_enter Tryd.func41, Tryd.ntmps41
    go_wp2
    go_ret
    exact ⟨rfl, 0, rfl⟩
  have h1' : (l.length : Int) ≤ 16 := by omega
  by_cases h2 : room < 0 ∨ 300 < room
  · have e : chkG l room = 1 := by unfold chkG; rw [if_neg h1, if_pos h2]
    rw [e]
    have H2 := Lib.hid h2
    clear e h1 h2
    go_enter Tryd.func41, Tryd.ntmps41
    go_wp2_with fail
    refine (rin5_no room 0 300 H2.out _).mono ?_
    rintro e w' ⟨rfl, rfl⟩
    go_wp2
    go_ret
    exact ⟨rfl, 0, rfl⟩
  have r1 : 0 ≤ room := by omega
  have r2 : room ≤ 300 := by omega
  have hlen : l.length ≤ 16 := by omega
  have echk : chkG l room = if l.all goodB = true then 0 else 1 := by unfold chkG; rw [if_neg h1, if_neg h2]
  rw [echk]
  have hbad : (∃ i, i < l.length ∧ goodB (l.getD i g0) = false) → (if l.all goodB = true then (0 : Int) else 1) = 1 := fun ⟨i, hi, hb⟩ => by
    rw [if_neg]
    intro h
    rw [List.all_eq_true.1 h _ (getD_mem hi)] at hb
    cases hb
  have hgood : (∀ i, i < l.length → goodB (l.getD i g0) = true) → (if l.all goodB = true then (0 : Int) else 1) = 0 := fun h => by
    rw [if_pos]
    refine List.all_eq_true.2 fun g hg => ?_
    obtain ⟨i, hi, rfl⟩ := List.mem_iff_getElem.1 hg
    have := h i hi
    rwa [List.getD_eq_getElem?_getD, List.getElem?_eq_getElem hi] at this
  generalize (if l.all goodB = true then (0 : Int) else 1) = E at hbad hgood ⊢
  have Hbad := Lib.hid hbad
  have Hgood := Lib.hid hgood
  clear h1 h2 echk hbad hgood
  go_enter Tryd.func41, Tryd.ntmps41
  go_wp2_with fail
  refine (rin5_yes room 0 300 r1 r2 _).mono ?_
  rintro e w' ⟨rfl, rfl⟩
  go_wp2
  go_loopw [5] (fun i wr => ∃ k q : Nat, i = .int .i64 k ∧ k ≤ l.length ∧ (∀ j, j < k → goodB (l.getD j g0) = true) ∧ wr = w.drewN q) (fun i _ => l.length - (intOf i).toNat)
  case atStart => exact ⟨0, 0, rfl, Nat.zero_le _, fun j hj => by omega, rfl⟩
  case round =>
    obtain ⟨k, q, rfl, hk, hall, rfl⟩ := hrel
    have Hall := Lib.hid hall
    clear hall
    rcases Nat.lt_or_ge k l.length with hlt | hge
    · obtain ⟨b, off, rfl, hbl, hc⟩ := hx.open (by omega)
      obtain ⟨c0, c1⟩ := hc k hlt
      clear hc
      have hkI : (k : Int) < l.length := by omega
      have Hb : goodB (l.getD k g0) = goodB ⟨(l.getD k g0).w, (l.getD k g0).v⟩ := rfl
      generalize hgw : (l.getD k g0).w = gw at c0 Hb
      generalize hgv : (l.getD k g0).v = gv at c1 Hb
      have HB := Lib.hid Hb
      clear Hb hgw hgv
      by_cases h1 : 1 ≤ gw ∧ gw ≤ 300
      · by_cases h2 : 0 ≤ gv ∧ gv ≤ 1000
        · have hg : goodB ⟨gw, gv⟩ = true := (goodB_iff _).2 ⟨h1, h2⟩
          have Hg := Lib.hid hg
          clear hg
          obtain ⟨p1, p2⟩ := h1
          obtain ⟨q1, q2⟩ := h2
          have H1 := Lib.hid (fun W => rin5_yes gw 1 300 p1 p2 W)
          have H2 := Lib.hid (fun W => rin5_yes gv 0 1000 q1 q2 W)
          go_wp2_with fail
          refine (H1.out _).mono ?_
          rintro e w' ⟨rfl, rfl⟩
          go_wp2_with fail
          refine (H2.out _).mono ?_
          rintro e w' ⟨rfl, rfl⟩
          go_wp2
          go_roundw
          case rel =>
            refine ⟨k + 1, q, by go_num, by omega, fun j hj => ?_, rfl⟩
            rcases Nat.lt_or_ge j k with h | h
            · exact Hall.out j h
            · obtain rfl : j = k := by omega
              rw [HB.out]; exact Hg.out
          case measure => simp only [intOf]; omega
        · have hg : goodB ⟨gw, gv⟩ = false := by
            rw [Bool.eq_false_iff]; intro h; exact h2 ((goodB_iff _).1 h).2
          have he := Hbad.out ⟨k, hlt, HB.out.trans hg⟩
          have He := Lib.hid he
          have hv : gv < 0 ∨ 1000 < gv := by omega
          obtain ⟨p1, p2⟩ := h1
          have H1 := Lib.hid (fun W => rin5_yes gw 1 300 p1 p2 W)
          have H2 := Lib.hid (fun W => rin5_no gv 0 1000 hv W)
          clear hg he h2 hv
          go_wp2_with fail
          refine (H1.out _).mono ?_
          rintro e w' ⟨rfl, rfl⟩
          go_wp2_with fail
          refine (H2.out _).mono ?_
          rintro e w' ⟨rfl, rfl⟩
          go_wp2
          go_ret
          exact ⟨by rw [He.out]; rfl, q, rfl⟩
      · have hg : goodB ⟨gw, gv⟩ = false := by
          rw [Bool.eq_false_iff]; intro h; exact h1 ((goodB_iff _).1 h).1
        have he := Hbad.out ⟨k, hlt, HB.out.trans hg⟩
        have He := Lib.hid he
        have hv : gw < 1 ∨ 300 < gw := by omega
        have H1 := Lib.hid (fun W => rin5_no gw 1 300 hv W)
        clear hg he h1 hv
        go_wp2_with fail
        refine (H1.out _).mono ?_
        rintro e w' ⟨rfl, rfl⟩
        go_wp2
        go_ret
        exact ⟨by rw [He.out]; rfl, q, rfl⟩
    · obtain rfl : l.length = k := by omega
      have h3 : decide (l.length < l.length) = false := by simp
      have he := Hgood.out Hall.out
      have He := Lib.hid he
      clear he
      go_wp2
      go_ret
      exact ⟨by rw [He.out]; rfl, q, rfl⟩

/-! ### By -/
/-- jobs at a: their times and weights -/
def JGd (w : World) (a : Option Addr) (l : List Gd) : Prop := l = [] ∨ ∃ g, a = some ⟨g, 0, none⟩ ∧ g < w.heap.size ∧ ∀ i, i < l.length → w.cell? ⟨g, i * 3, none⟩ = some (.int .i64 (wOf l i)) ∧ w.cell? ⟨g, i * 3 + 2, none⟩ = some (.int .i64 (vOf l i))
theorem JGd.below {w w' : World} {a : Option Addr} {l : List Gd} (h : JGd w a l) (hb : Below w.heap.size w w') : JGd w' a l := by
  rcases h with h | ⟨g, e, hg, hc⟩
  · exact .inl h
  · exact .inr ⟨g, e, Nat.lt_of_lt_of_le hg hb.size, fun i hi => ⟨(hb.cell (p := ⟨g, i * 3, none⟩) hg).trans (hc i hi).1, (hb.cell (p := ⟨g, i * 3 + 2, none⟩) hg).trans (hc i hi).2⟩⟩
/-- those that were taken: the first ones -/
structure ByG (l : List Gd) (o : List Nat) : Prop where
  nd : o.Nodup
  lt : ∀ y ∈ o, y < l.length
  sorted : o.Pairwise (dearR l)
  ahead : ∀ y ∈ o, ∀ j, j < l.length → j ∉ o → dearR l y j
theorem ByG.zero (l : List Gd) : ByG l [] := ⟨List.nodup_nil, by simp, List.Pairwise.nil, by simp⟩
theorem ByG.next {l : List Gd} {o : List Nat} (h : ByG l o) {b : Nat} (hb : b < l.length) (hn : b ∉ o) (hmin : ∀ j, j < l.length → j ∉ o → j ≠ b → dearR l b j) : ByG l (o ++ [b]) := by
  refine ⟨List.nodup_append.2 ⟨h.nd, by simp, fun x hx y hy e => hn (by rw [List.mem_singleton] at hy; rw [← hy, ← e]; exact hx)⟩, fun y hy => ?_, List.pairwise_append.2 ⟨h.sorted, by simp, fun x hx y hy => ?_⟩, fun y hy j hj hjn => ?_⟩
  · rw [List.mem_append, List.mem_singleton] at hy
    rcases hy with c | c
    · exact h.lt y c
    · omega
  · rw [List.mem_singleton] at hy
    rw [hy]; exact h.ahead x hx b hb hn
  · rw [List.mem_append, List.mem_singleton] at hy hjn
    have n1 : j ∉ o := fun c => hjn (.inl c)
    have n2 : j ≠ b := fun c => hjn (.inr c)
    rcases hy with c | c
    · exact h.ahead y c j hj n1
    · rw [c]; exact hmin j hj n1 n2
theorem ByG.falls {l : List Gd} {o : List Nat} (h : ByG l o) (hl : o.length = l.length) : GSort.Falls (dearR l) l.length o := ⟨(range_sub h.nd h.lt).2.1 hl, h.sorted⟩
/-- the best of those below i -/
def BestG (l : List Gd) (o : List Nat) (i : Nat) (v : Value) : Prop :=
  (v = .int .i64 (-1) ∧ ∀ j, j < i → j ∈ o) ∨ ∃ b : Nat, v = .int .i64 b ∧ b < i ∧ b ∉ o ∧ ∀ j, j < i → j ∉ o → j ≠ b → dearR l b j

set_option maxRecDepth 100000 in
set_option maxHeartbeats 1000000 in
theorem by1_any (l : List Gd) (a : Option Addr) (cap : Nat) (w : World) (hj : JGd w a l) (hok : Ok l) :
    Calls Tryd.prog 87 #[.slice a l.length cap, .int .i64 1] w fun e w' => ∃ ord a' c', e = .returned (.slice a' l.length c') ∧ GSort.Falls (dearR l) l.length ord ∧ Own w' w.heap.size 3 a' c' (asInts ord) ∧ Below w.heap.size w w' := by
  have hs := hok.short
  obtain ⟨i0, hi, hz0, hz1, hz2⟩ := info_parts rIntInfo
  have hmk := fun w => run_make_row' (P := Tryd.prog) 106 4 (.bool false) 1 Tryd.underlying106 (by kernel_rfl) rfl .i64 .i64 l.length (by omega) (by omega) w
  have k20 : ((1 : Int) == 0) = false := by decide
  have k21 : ((1 : Int) == 1) = true := by decide
  have k22 : ((1 : Int) == 2) = false := by decide
  have kn1 : decide ((-1 : Int) < 0) = true := by decide
  have Hok := Lib.hid hok
  clear hok
  obtain ⟨n, hn⟩ : ∃ n, l.length = n := ⟨_, rfl⟩
  have HN0 := Lib.hid hn
  rw [hn] at hmk hs ⊢
  go_enter Tryd.func87, Tryd.ntmps87
  clear hn
  go_wp2
  go_loopw [5, 7] (fun out m wr => ∃ (o : List Nat) (ao : Option Addr) (capo : Nat), m = .int .i64 o.length ∧ out = .slice ao o.length capo ∧ ByG l o ∧ ByRel (List.replicate n 0) w o ao capo wr) (fun _ m _ => n - (intOf m).toNat)
  case atStart =>
    exact ⟨[], none, 0, rfl, rfl, ByG.zero l, Own.nil _ _ _, by rw [List.length_replicate]; exact (World.rowIs_made w (.bool false) n 4).congr (fun j _ => by simp), (Below.refl _ _).alloc (Nat.le_refl _) _⟩
  case round =>
    obtain ⟨o, ao, capo, rfl, rfl, hL, R⟩ := hrel
    have hll := (range_sub hL.nd hL.lt).1
    rw [HN0.out] at hll
    rcases Nat.lt_or_ge o.length n with hlt | hge
    · obtain ⟨j0, j1, j2⟩ := (range_sub hL.nd hL.lt).2.2 (by rw [HN0.out]; exact hlt)
      rcases hj.below R.bel with h | ⟨g, rfl, hg, hc⟩
      · have := HN0.out; rw [h] at this; simp at this; omega
      rw [HN0.out] at hc j1
      have HL := Lib.hid hL
      have HR := Lib.hid R
      have HC := Lib.hid hc
      clear hL R hc
      go_wp2
      rename World => w5
      go_loopw [8, 9] (fun best i wx => ∃ k : Nat, i = .int .i64 k ∧ k ≤ n ∧ BestG l o k best ∧ ∃ q, wx = w5.drewN q) (fun _ i _ => n - (intOf i).toNat)
      case atStart => exact ⟨0, rfl, Nat.zero_le _, .inl ⟨rfl, fun j hj => by omega⟩, 0, rfl⟩
      case round =>
        obtain ⟨k, rfl, hk, hB, q, rfl⟩ := hrel
        rcases Nat.lt_or_ge k n with hkl | hkl
        · obtain ⟨c0, c0'⟩ := HC.out k hkl
          have r0 := HR.out.row.cell (i := k) (by rw [List.length_replicate]; exact hkl)
          have hkI : (k : Int) < n := by omega
          by_cases hm : k ∈ o
          · have r1 : w5.cell? ⟨w.heap.size, k, none⟩ = some (.bool true) := by rw [r0, decide_eq_true hm]
            clear r0
            have HB0 := Lib.hid hB
            have HB := Lib.hid (show ∀ v, BestG l o k v → BestG l o (k + 1) v from fun v hB => by
              rcases hB with ⟨h1, h2⟩ | ⟨b, h1, h2, h3, h4⟩
              · exact .inl ⟨h1, fun j hj => by
                  rcases Nat.lt_or_ge j k with c | c
                  · exact h2 j c
                  · obtain rfl : j = k := by omega
                    exact hm⟩
              · exact .inr ⟨b, h1, by omega, h3, fun j hj hjn hne => by
                  rcases Nat.lt_or_ge j k with c | c
                  · exact h4 j c hjn hne
                  · obtain rfl : j = k := by omega
                    exact absurd hm hjn⟩)
            clear hB hm c0 c0'
            go_wp2
            go_roundw
            case rel => exact ⟨k + 1, by go_num, by omega, HB.out _ HB0.out, q, rfl⟩
            case measure => simp only [intOf]; omega
          · have r1 : w5.cell? ⟨w.heap.size, k, none⟩ = some (.bool false) := by rw [r0, decide_eq_false hm]
            clear r0
            rcases hB with ⟨rfl, h2⟩ | ⟨b, rfl, h2, h3, h4⟩
            · have HB : Hid (BestG l o (k + 1) (.int .i64 k)) := Lib.hid (.inr ⟨k, rfl, Nat.lt_succ_self _, hm, fun j hj hjn hne => absurd (h2 j (by omega)) hjn⟩)
              clear h2 hm
              go_wp2
              simp only [List.append]
              go_quiet (fail)
              go_wp2
              go_roundw
              case rel => exact ⟨k + 1, by go_num, by omega, HB.out, _, by first | rfl | rw [World.drewN_drewN]⟩
              case measure => simp only [intOf]; omega
            · obtain ⟨c1, c1'⟩ := HC.out b (by omega)
              have hbI : (b : Int) < n := by omega
              have hbn : decide ((b : Int) < 0) = false := decide_eq_false (by omega)
              have g1 := wv_range Hok.out k
              have g2 := wv_range Hok.out b
              have hb1 : BestG l o (k + 1) (.int .i64 k) ∨ True := .inr trivial
              have HB1 : Hid (vOf l b * wOf l k < vOf l k * wOf l b → BestG l o (k + 1) (.int .i64 k)) := Lib.hid fun h => .inr ⟨k, rfl, Nat.lt_succ_self _, hm, fun j hj hjn hne => by
                have hkb : dearR l k b := .inl h
                by_cases e : j = b
                · rw [e]; exact hkb
                · exact dear_trans Hok.out _ _ _ hkb (h4 j (by omega) hjn e)⟩
              have HB2 : Hid (vOf l k * wOf l b ≤ vOf l b * wOf l k → BestG l o (k + 1) (.int .i64 b)) := Lib.hid fun h => .inr ⟨b, rfl, by omega, h3, fun j hj hjn hne => by
                rcases Nat.lt_or_ge j k with c | c
                · exact h4 j c hjn hne
                · obtain rfl : j = k := by omega
                  unfold dearR dearL
                  omega⟩
              clear h2 h3 h4 hm hb1
              generalize wOf l k = wk at *
              generalize vOf l k = vk at *
              generalize wOf l b = wb at *
              generalize vOf l b = vb at *
              have m1 := mul_range (x := vb) (y := wk) (by omega) (by omega) (by omega) (by omega)
              have m2 := mul_range (x := vk) (y := wb) (by omega) (by omega) (by omega) (by omega)
              rw [Int.mul_comm] at m1
              rw [Int.mul_comm] at m2
              have hw1 : IntKind.i64.wrap (wk * vb) = wk * vb := IntWalk.i64_in _ (by omega)
              have hw2 : IntKind.i64.wrap (wb * vk) = wb * vk := IntWalk.i64_in _ (by omega)
              rcases Int.lt_or_le (wk * vb) (wb * vk) with h | h
              · have hd : decide (wk * vb < wb * vk) = true := decide_eq_true h
                have HB := Lib.hid (HB1.out (by rw [Int.mul_comm vb, Int.mul_comm vk]; exact h))
                clear HB1 HB2 h m1 m2 g1 g2
                go_wp2
                simp only [List.append]
                go_quiet (fail)
                go_wp2
                go_roundw
                case rel => exact ⟨k + 1, by go_num, by omega, HB.out, _, by first | rfl | rw [World.drewN_drewN]⟩
                case measure => simp only [intOf]; omega
              · have hd : decide (wk * vb < wb * vk) = false := decide_eq_false (by omega)
                have HB := Lib.hid (HB2.out (by rw [Int.mul_comm vb, Int.mul_comm vk]; exact h))
                clear HB1 HB2 h m1 m2 g1 g2
                go_wp2
                simp only [List.append]
                go_quiet (fail)
                go_wp2
                go_roundw
                case rel => exact ⟨k + 1, by go_num, by omega, HB.out, _, by first | rfl | rw [World.drewN_drewN]⟩
                case measure => simp only [intOf]; omega
        · obtain rfl : n = k := by omega
          have h3 : decide (n < n) = false := by simp
          rcases hB with ⟨_, h2⟩ | ⟨b, rfl, hb, hbn, hmin⟩
          · exact absurd (h2 j0 j1) j2
          · have R6 : ByRel (List.replicate n 0) w o ao capo (w5.drewN q) := ⟨HR.out.own.drewN q, HR.out.row, drewN_below HR.out.bel q⟩
            obtain ⟨w6, hw6⟩ : ∃ w6, w6 = w5.drewN q := ⟨_, rfl⟩
            rw [← hw6] at R6 ⊢
            clear hw6 HR
            have HR := Lib.hid R6
            clear R6
            have HL2 := Lib.hid (HL.out.next (by rw [HN0.out]; exact hb) hbn (fun j hj hjn hne => hmin j (by rw [← HN0.out]; exact hj) hjn hne))
            have r0 := HR.out.row.cell (i := b) (by rw [List.length_replicate]; exact hb)
            have f0 := HR.out.row.frozen b
            have hbI : (b : Int) < n := by omega
            have hsz : w.heap.size + 1 ≤ w6.heap.size := HR.out.row.lt
            have HN := Lib.hid (fun v2 w4 => HR.out.next b v2 w4)
            have hown := HR.out.own.below (p := ⟨w.heap.size, b, none⟩) (Nat.lt_succ_self _) (.bool true)
            unfold Own at hown
            rw [asInts_length] at hown
            have HOwn := Lib.hid hown
            clear hown hmin hbn
            go_wp2_with (at_builtin; refine wpList_append_own _ rfl _ _ 22 rfl (w.heap.size + 1) 3 i0 (.int .i64 0) 1 8 Tryd.underlying22 hi hz0 hz1 hz2 rfl (by decide) (.slice ao o.length capo) o.length ((asInts o).map (Value.int .i64)) rfl (World.ownsRow.alloc HOwn.out _) ⟨_, 0, none⟩ 1 1 [.int .i64 b] rfl rfl (rcell_new _ _ _ _ (by simp)) (by simp [Value.oneCell']) (by unfold maxLen; omega) (by omega) (by simp [World.setCell]; omega) ?_; intro v2 w4 own2 gr2 _; obtain ⟨a2, c2, rfl, HR2⟩ := HN.out v2 w4 own2 gr2; have HR3 := Lib.hid HR2; clear HR2 own2 gr2)
            go_roundw
            case rel => exact ⟨o ++ [b], a2, c2, by rw [List.length_append]; go_num, by rw [List.length_append]; rfl, HL2.out, HR3.out⟩
            case measure => simp only [intOf]; omega
    · have hle : o.length = n := by omega
      have HF := Lib.hid (hL.falls (hle.trans HN0.out.symm))
      have HR := Lib.hid R
      have h3 : decide (o.length < n) = false := decide_eq_false (by omega)
      have Hle := Lib.hid hle
      clear hL R hle
      go_wp2
      go_ret
      exact ⟨o, ao, capo, by first | rfl | (rw [Hle.out]; rfl), by first | exact HF.out | (rw [← HN0.out]; exact HF.out), HR.out.own.mono (Nat.le_succ _), HR.out.bel⟩
end Go.Proofs.YtomgcfjdmoefgaaDoor
