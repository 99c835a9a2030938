/- WALKS: the document's dear, Cut, most, Most. -/
import Derived.Test.YtomgcfjdmoefgaaDoorRefSack
import Derived.Test.YtomgcfjdmoefgaaDoorSackBest
namespace Go.Proofs.YtomgcfjdmoefgaaDoor
open Go Go.RowKit SackPlain
open SortPlain (asInts asInts_length)

/-! ### dear -/
def flatJG (l : List Gd) : List Value := l.flatMap fun g => [.int .i64 g.w, .int .i64 0, .int .i64 g.v]
theorem flatJG_snoc (l : List Gd) (g : Gd) : flatJG (l ++ [g]) = flatJG l ++ [.int .i64 g.w, .int .i64 0, .int .i64 g.v] := by simp [flatJG]
theorem flatJG_get : ∀ (l : List Gd) (i : Nat), i < l.length → (flatJG l)[i * 3]? = some (.int .i64 (wOf l i)) ∧ (flatJG l)[i * 3 + 2]? = some (.int .i64 (vOf l i))
  | [], i, h => by simp at h
  | g :: l, 0, _ => by simp [flatJG, wOf, vOf]
  | g :: l, i + 1, h => by
    have ih := flatJG_get l i (by simpa using h)
    rw [show flatJG (g :: l) = [.int .i64 g.w, .int .i64 0, .int .i64 g.v] ++ flatJG l from rfl, List.getElem?_append_right (by simp; omega), List.getElem?_append_right (by simp; omega)]
    rw [show (i + 1) * 3 - [Value.int .i64 g.w, .int .i64 0, .int .i64 g.v].length = i * 3 by simp; omega, show (i + 1) * 3 + 2 - [Value.int .i64 g.w, .int .i64 0, .int .i64 g.v].length = i * 3 + 2 by simp; omega, ih.1, ih.2]
    simp [wOf, vOf]
theorem jgd_of {w : World} {B n cap : Nat} {a : Option Addr} {l : List Gd} (hn : n = l.length) (h : w.ownsRow B 109 3 (.slice a n cap) n (flatJG l)) : JGd w a l := by
  subst hn
  by_cases h0 : l.length = 0
  · exact .inl (List.eq_nil_of_length_eq_zero h0)
  rcases h.2 with ⟨_, hz⟩ | ⟨g, cap', cur, h', hb, hg, hc, hm, hs, ht⟩
  · omega
  · simp only [Value.slice.injEq, true_and] at h'
    obtain ⟨rfl, rfl⟩ := h'
    refine .inr ⟨g, rfl, lt_of_block hg, fun i hi => ?_⟩
    obtain ⟨f1, f2⟩ := flatJG_get l i hi
    rw [cell_of_row w g (i * 3) cur _ (0, 0) hg, cell_of_row w g (i * 3 + 2) cur _ (0, 0) hg]
    have h1 : (cur.toList.take (l.length * 3))[i * 3]? = (flatJG l)[i * 3]? := by rw [ht]
    have h2 : (cur.toList.take (l.length * 3))[i * 3 + 2]? = (flatJG l)[i * 3 + 2]? := by rw [ht]
    rw [List.getElem?_take_of_lt (by omega)] at h1 h2
    rw [← Array.getElem?_toList, ← Array.getElem?_toList, h1, h2]
    exact ⟨f1, f2⟩
theorem take_snocG {l : List Gd} {k : Nat} (h : k < l.length) : l.take (k + 1) = l.take k ++ [l.getD k g0] := by rw [List.take_add_one, List.getD_eq_getElem?_getD, List.getElem?_eq_getElem h]; rfl
set_option maxRecDepth 100000 in
set_option maxHeartbeats 4000000 in
theorem rdear_any (l : List Gd) (a : Option Addr) (cap : Nat) (w : World) (hx : Goods w a l) (hok : Ok l) :
    Calls Tryd.prog 79 #[.slice a l.length cap] w fun e w' => ∃ ord a' c', e = .returned (.slice a' l.length c') ∧ GSort.Falls (dearR l) l.length ord ∧ Own w' w.heap.size 3 a' c' (asInts ord) ∧ Below w.heap.size w w' := by
  have hs := hok.short
  obtain ⟨i0, hi, hz0, hz1, hz2⟩ := info_parts jobInfo
  have Hok := Lib.hid hok
  clear hok
  go_enter Tryd.func79, Tryd.ntmps79
  go_wp2
  go_loopw [3, 4] (fun js i wr => ∃ (k : Nat) (al : Option Addr) (capl : Nat), i = .int .i64 k ∧ k ≤ l.length ∧ js = .slice al k capl ∧ wr.ownsRow w.heap.size 109 3 (.slice al k capl) k (flatJG (l.take k)) ∧ Below w.heap.size w wr) (fun _ i _ => l.length - (intOf i).toNat)
  case atStart => exact ⟨0, none, 0, rfl, Nat.zero_le _, rfl, World.ownsRow_nil _ _ _ _, Below.refl _ _⟩
  case round =>
    obtain ⟨k, al, capl, rfl, hk, rfl, hown, hbr⟩ := hrel
    rename World => wk
    rcases Nat.lt_or_ge k l.length with hlt | hge
    · obtain ⟨b, off, rfl, hbl, hc⟩ := (hx.below hbr).open (by omega)
      obtain ⟨c0, c1⟩ := hc k hlt
      clear hc
      have hkI : (k : Int) < l.length := by omega
      have hle := hbr.size
      have htk := take_snocG hlt
      have Hlt := Lib.hid (World.ownsRow.lt hown)
      have post : Hid (∀ (v2 : Value) (w2 : World), (w2.ownsRow w.heap.size 109 3 v2 (k + 1) (flatJG (l.take k) ++ [.int .i64 (l.getD k g0).w, .int .i64 0, .int .i64 (l.getD k g0).v])) → (wk.alloc (.cells #[.int .i64 (l.getD k g0).w, .int .i64 0, .int .i64 (l.getD k g0).v] 109)).drew.grownBy w2 (Value.slice al k capl).ownBlock →
          ∃ a3 cap3, v2 = .slice a3 (k + 1) cap3 ∧ w2.ownsRow w.heap.size 109 3 (.slice a3 (k + 1) cap3) (k + 1) (flatJG (l.take (k + 1))) ∧ Below w.heap.size w w2) := by
        refine Lib.hid fun v2 w2 own2 gr2 => ?_
        rw [← flatJG_snoc, ← htk] at own2
        have hb4 : Below w.heap.size w w2 := (drewN_below (hbr.alloc hle _) 1).grown gr2 (by show w.heap.size ≤ (wk.alloc _).heap.size; simp; omega) (fun kk e => (Hlt.out kk e).1)
        have o3 := own2
        rcases own2.2 with ⟨_, hz⟩ | ⟨g, c, cur, rfl, _⟩
        · omega
        · exact ⟨_, _, rfl, o3, hb4⟩
      clear htk
      generalize (l.getD k g0).w = gw at *
      generalize (l.getD k g0).v = gv at *
      generalize flatJG (l.take k) = fl at *
      have Hbr := Lib.hid hbr
      clear hbr
      go_upto_region 5 with fail
      go_region_law
        ((refine step_append_lies _ (by rfl) _ _ _ (by rfl) w.heap.size 109 i0 _ 3 24 Tryd.underlying107 hi hz0 hz1 hz2 rfl (by omega) (.slice al k capl) k fl (by rfl) (World.ownsRow.alloc (World.ownsRow.drew hown) _) ⟨wk.heap.size, 0, none⟩ 1 1 [.int .i64 gw, .int .i64 0, .int .i64 gv] (by rfl) (by rfl) (World.news_of_block (cs := #[.int .i64 gw, .int .i64 0, .int .i64 gv]) (t := 109) (fr := (0, 0)) (heap_alloc_new _ _)) (by simp [Value.oneCell']) (by omega) (by unfold maxLen; omega) (by omega) (by simp; omega) (wk.heap.size + 1) (by simp) ?_; intro gg cap2 w2 hown2 hgr hat hlt2; obtain ⟨a3, cap3, hsl, hO3, hR3⟩ := post.out _ w2 hown2 hgr; have HO3 := Lib.hid hO3; have HR3 := Lib.hid hR3; have Hsl := Lib.hid hsl; clear hO3 hR3 hsl hown2 hgr hat hlt2))
      all_goals
        go_wp2
        go_roundw
        case rel => exact ⟨k + 1, a3, cap3, by go_num, by omega, Hsl.out, HO3.out, HR3.out⟩
        case measure => simp only [intOf]; omega
    · obtain rfl : l.length = k := by omega
      have h3 : decide (l.length < l.length) = false := by simp
      rw [List.take_length] at hown
      have hJ : JGd wk al l := jgd_of rfl hown
      have HB := Lib.hid (by1_any l al capl wk hJ Hok.out)
      have HBr := Lib.hid hbr
      clear hown hbr hJ
      go_wp2_with fail
      refine HB.out.mono ?_
      rintro e w2 ⟨ord, a2, c2, rfl, hF, hO, hb⟩
      have HF := Lib.hid hF
      have HO := Lib.hid (hO.mono HBr.out.size)
      have HB2 := Lib.hid (HBr.out.trans (hb.mono HBr.out.size))
      clear hF hO hb
      go_wp2
      go_ret
      exact ⟨ord, a2, c2, rfl, HF.out, HO.out, HB2.out⟩

/-! ### Cut -/
def RCut (l : List Gd) (room : Int) (w : World) (e : Ending) (w' : World) : Prop :=
  ∃ ord whole part of_, e = .returned (.tuple #[.int .i64 whole, .int .i64 part, .int .i64 of_]) ∧ GSort.Falls (dearR l) l.length ord ∧ CutRes (wOf l) (vOf l) ord room whole part of_ ∧ (0 ≤ whole ∧ whole ≤ 16000) ∧ Below w.heap.size w w'
set_option maxRecDepth 100000 in
set_option maxHeartbeats 2000000 in
theorem rcut_any (l : List Gd) (room : Int) (a : Option Addr) (cap : Nat) (w : World) (hx : Goods w a l) (hok : Ok l) (r0 : 0 ≤ room) (r1 : room ≤ 300) :
    Calls Tryd.prog 43 #[.slice a l.length cap, .int .i64 room] w fun e w' => RCut l room w e w' := by
  have hs := hok.short
  have Hok := Lib.hid hok
  have HD := Lib.hid (rdear_any l a cap w hx hok)
  clear hok
  go_enter Tryd.func43, Tryd.ntmps43
  go_wp2_with fail
  refine HD.out.mono ?_
  rintro e w1 ⟨ord, ao, capo, rfl, hF, hO, b01⟩
  have hol := hF.length
  have hx1 := hx.below b01
  have hrow := hO.ints
  have HF := Lib.hid hF
  have Hol := Lib.hid hol
  have hordlt : ∀ i ∈ ord, i < l.length := hF.lt
  clear hF hol hO HD
  obtain ⟨wo, rfl⟩ : ∃ wo : World, wo = w1 := ⟨_, rfl⟩
  go_wp2
  go_loopw [1, 8, 9] (fun rm wh i wr => ∃ k : Nat, i = .int .i64 k ∧ k ≤ l.length ∧ wh = .int .i64 (S (vOf l) (ord.take k)) ∧ rm = .int .i64 (room - S (wOf l) (ord.take k)) ∧ S (wOf l) (ord.take k) ≤ room ∧ Below wo.heap.size wo wr)
    (fun _ _ i _ => l.length - (intOf i).toNat)
  case atStart => exact ⟨0, rfl, Nat.zero_le _, by rw [List.take_zero, S_nil], by rw [List.take_zero, S_nil, Int.sub_zero], by rw [List.take_zero, S_nil]; exact r0, Below.refl _ _⟩
  case round =>
    obtain ⟨k, rfl, hk, rfl, rfl, hroom, hb⟩ := hrel
    have hwr := S_range (f := wOf l) (A := ord.take k) (c := 300) (fun i _ => by have := wv_range Hok.out i; omega)
    have hvr := S_range (f := vOf l) (A := ord.take k) (c := 1000) (fun i _ => by have := wv_range Hok.out i; omega)
    have htl : (ord.take k).length = k := by rw [List.length_take, Hol.out]; omega
    rw [htl] at hvr hwr
    have hsz := hb.size
    rcases Nat.lt_or_ge k l.length with hlt | hge
    · have hko : k < ord.length := by rw [Hol.out]; exact hlt
      obtain ⟨bo, oo, rfl, hco⟩ := (hrow.below hb).open (by rw [asInts_length]; omega)
      have c0 := hco k (by rw [asInts_length]; exact hko)
      rw [asInts_getD ord k hko] at c0
      have hio := hordlt _ (List.getElem_mem hko)
      obtain ⟨b, off, rfl, hbl, hc⟩ := hx1.open (by omega)
      obtain ⟨d0, d1⟩ := (hc _ hio).below hb hbl
      have hr := wv_range Hok.out ord[k]
      have e1 := S_take_snoc (wOf l) ord k hko
      have e2 := S_take_snoc (vOf l) ord k hko
      have ed : ord = ord.take k ++ ord[k] :: ord.drop (k + 1) := by rw [← List.drop_eq_getElem_cons hko, List.take_append_drop]
      have ew : (l.getD ord[k] g0).w = wOf l ord[k] := rfl
      have ev : (l.getD ord[k] g0).v = vOf l ord[k] := rfl
      rw [ew] at d0
      rw [ev] at d1
      clear hc ew ev htl hco
      have Hed := Lib.hid ed
      clear ed
      generalize hi : ord[k] = i at c0 d0 d1 hr e1 e2 hio Hed
      have E1 := Lib.hid e1
      have E2 := Lib.hid e2
      clear e1 e2 hi
      generalize hSW : S (wOf l) (ord.take k) = SW at hwr hroom E1 ⊢
      generalize hSV : S (vOf l) (ord.take k) = SV at hvr E2 ⊢
      generalize hWi : wOf l i = wi at d0 hr E1
      generalize hVi : vOf l i = vi at d1 hr E2
      have HSW := Lib.hid hSW
      have HSV := Lib.hid hSV
      have HWi := Lib.hid hWi
      have HVi := Lib.hid hVi
      clear hSW hSV hWi hVi
      have hil : (i : Int) < l.length := by omega
      rcases Int.lt_or_le (room - SW) wi with hlt2 | hle
      · have hm := mul_range (x := vi) (y := room - SW) (by omega) (by omega) (by omega) (by omega)
        obtain ⟨hm1, hm2⟩ := hm
        go_wp2
        go_region
        all_goals
          go_wp2
          go_ret3
          exact ⟨ord, SV, vi * (room - SW), wi, rfl, HF.out, ⟨ord.take k, i :: ord.drop (k + 1), Hed.out, by rw [HSW.out]; exact hroom, HSV.out.symm, .inr ⟨i, ord.drop (k + 1), rfl, by rw [HSW.out, HWi.out]; exact hlt2, by rw [HSW.out, HVi.out], HWi.out.symm⟩⟩, by omega, b01.trans (((hb.alloc hsz _).drew).mono b01.size)⟩
      · go_wp2
        go_roundw
        case rel => exact ⟨k + 1, by go_num, by omega, by rw [E2.out], by rw [E1.out]; congr 1; omega, by rw [E1.out]; omega, hb.alloc hsz _⟩
        case measure => simp only [intOf]; omega
    · have hkn : k = ord.length := by rw [Hol.out]; omega
      have ht : ord.take k = ord := by rw [hkn, List.take_length]
      rw [ht] at hroom hvr hwr ⊢
      have h3 : (l.length : Int) ≤ k := by omega
      have hvr' : S (vOf l) ord ≤ 16000 := by omega
      have Hroom := Lib.hid hroom
      obtain ⟨hv0, _⟩ := hvr
      clear hkn ht htl hroom hwr
      go_wp2
      go_ret3
      exact ⟨ord, S (vOf l) ord, 0, 1, rfl, HF.out, ⟨ord, [], by simp, Hroom.out, rfl, .inl ⟨rfl, rfl, rfl⟩⟩, by omega, b01.trans (hb.mono b01.size)⟩

/-! ### most -/
theorem most_range {l : List Gd} (h : Ok l) (k : Nat) (r : Int) : 0 ≤ most (l.drop k) r ∧ most (l.drop k) r ≤ 16000 := by
  have hm : ∀ g ∈ l.drop k, g ∈ l := fun g hg => List.mem_of_mem_drop hg
  have a := most_nonneg (l.drop k) (fun g hg => (h.all g (hm g hg)).2.2.1) r
  have b := most_le (l.drop k) 1000 (by decide) (fun g hg => (h.all g (hm g hg)).2.2.2) r
  have c := h.short
  have d : (l.drop k).length ≤ 16 := by rw [List.length_drop]; omega
  omega
theorem most_step {l : List Gd} {k : Nat} (h : k < l.length) (r : Int) : most (l.drop k) r = if wOf l k ≤ r then max (most (l.drop (k + 1)) r) (most (l.drop (k + 1)) (r - wOf l k) + vOf l k) else most (l.drop (k + 1)) r := by
  rw [drop_cons l k h]; rfl
set_option maxHeartbeats 1000000 in
theorem rmost_any (l : List Gd) (a : Option Addr) (cap : Nat) (hok : Ok l) : ∀ (n k : Nat), n + k = l.length → ∀ (room : Int) (w : World), 0 ≤ room → room ≤ 300 → Goods w a l →
    Calls Tryd.prog 80 #[.slice a l.length cap, .int .i64 k, .int .i64 room] w fun e w' => e = .returned (.int .i64 (most (l.drop k) room)) ∧ ∃ m, w' = w.drewN m := by
  intro n
  induction n with
  | zero =>
    intro k hk room w h0 h1 hx
    obtain rfl : l.length = k := by omega
    have e : most (l.drop l.length) room = 0 := by rw [List.drop_length]; rfl
    rw [e]
    have hs := hok.short
    clear e hok hk
    have hb : ((l.length : Int) == (l.length : Int)) = true := by simp
    go_enter Tryd.func80, Tryd.ntmps80
    go_wp2
    go_ret
    exact ⟨rfl, 0, rfl⟩
  | succ n ih =>
    intro k hk room w h0 h1 hx
    have hlt : k < l.length := by omega
    have hs := hok.short
    have hkI : (k : Int) < l.length := by omega
    have hne : ((k : Int) == (l.length : Int)) = false := by rw [beq_eq_false_iff_ne]; omega
    have IH : Hid (∀ (room : Int) (w : World), 0 ≤ room → room ≤ 300 → Goods w a l → Calls Tryd.prog 80 #[.slice a l.length cap, .int .i64 ((k : Int) + 1), .int .i64 room] w fun e w' => e = .returned (.int .i64 (most (l.drop (k + 1)) room)) ∧ ∃ m, w' = w.drewN m) := Lib.hid fun room w h0 h1 hx => ih (k + 1) (by omega) room w h0 h1 hx
    have hst := most_step hlt room
    have g1 := most_range hok (k + 1) room
    have g2 := most_range hok (k + 1) (room - wOf l k)
    have gr := wv_range hok k
    obtain ⟨b, off, rfl, hbl, hc⟩ := hx.open (by omega)
    obtain ⟨c0, c1⟩ := hc k hlt
    have ew : (l.getD k g0).w = wOf l k := rfl
    have ev : (l.getD k g0).v = vOf l k := rfl
    rw [ew] at c0
    rw [ev] at c1
    have H1 := Lib.hid (IH.out room w h0 h1 hx)
    have H2 : Hid (wOf l k ≤ room → ∀ q m, Calls Tryd.prog 80 #[.slice (some ⟨b, off, none⟩) l.length cap, .int .i64 ((k : Int) + 1), .int .i64 (room - wOf l k)] ((w.drewN q).drewN m) fun e w' => e = .returned (.int .i64 (most (l.drop (k + 1)) (room - wOf l k))) ∧ ∃ m', w' = ((w.drewN q).drewN m).drewN m') :=
      Lib.hid fun hle q m => IH.out (room - wOf l k) ((w.drewN q).drewN m) (by omega) (by omega) ((hx.drewN q).drewN m)
    rw [hst]
    clear hst ih IH hok hc ew ev hk hx
    generalize most (l.drop (k + 1)) room = m1 at *
    generalize most (l.drop (k + 1)) (room - wOf l k) = m2 at *
    generalize wOf l k = wk at *
    generalize vOf l k = vk at *
    obtain ⟨v, hv⟩ : ∃ v, (if wk ≤ room then max m1 (m2 + vk) else m1) = v := ⟨_, rfl⟩
    rw [hv]
    have HV := Lib.hid hv
    clear hv
    go_enter Tryd.func80, Tryd.ntmps80
    go_wp2_with fail
    refine H1.out.mono ?_
    rintro e w1 ⟨rfl, q, hw1⟩
    have d0 : w1.cell? ⟨b, off + k * 2, none⟩ = some (.int .i64 wk) := by rw [hw1]; exact c0
    have d1 : w1.cell? ⟨b, off + k * 2 + 1, none⟩ = some (.int .i64 vk) := by rw [hw1]; exact c1
    rcases Int.lt_or_le room wk with hc | hc
    · have Hw1 := Lib.hid hw1
      have hd : decide (wk ≤ room) = false := decide_eq_false (by omega)
      have hv : m1 = v := by rw [← HV.out, if_neg (by omega)]
      have HV2 := Lib.hid hv
      clear hw1 c0 c1 H1 H2 hv
      go_wp2
      go_ret
      exact ⟨ret_int HV2.out, q, Hw1.out⟩
    · have H3 : Hid (∀ m, Calls Tryd.prog 80 #[.slice (some ⟨b, off, none⟩) l.length cap, .int .i64 ((k : Int) + 1), .int .i64 (room - wk)] (w1.drewN m) fun e w' => e = .returned (.int .i64 m2) ∧ ∃ m', w' = (w1.drewN m).drewN m') := Lib.hid fun m => by rw [hw1]; exact H2.out hc q m
      have Hw1 := Lib.hid hw1
      have hv : max m1 (m2 + vk) = v := by rw [← HV.out, if_pos hc]
      clear hw1 c0 c1 H1 H2
      rcases Int.lt_or_le m1 (m2 + vk) with hm | hm
      · have HV2 := Lib.hid (show m2 + vk = v by omega)
        clear hv
        go_wp2
        go_quiet (with_reducible exact Calls.quiet_of (H3.out _))
        go_wp2
        go_ret
        exact ⟨ret_int HV2.out, _, by rw [Hw1.out, World.drewN_drewN]⟩
      · have HV2 := Lib.hid (show m1 = v by omega)
        clear hv
        go_wp2
        go_quiet (with_reducible exact Calls.quiet_of (H3.out _))
        go_wp2
        go_ret
        exact ⟨ret_int HV2.out, _, by rw [Hw1.out, World.drewN_drewN]⟩
end Go.Proofs.YtomgcfjdmoefgaaDoor
