/- WALKS: the document's in, has, By (the longer first), longest. -/
import Derived.Test.YtomgcfjdmoefgaaDoorWithin
import Derived.Test.YtomgcfjdmoefgaaDoorOwnRow
import Derived.Test.YtomgcfjdmoefgaaDoorSortPlain
import Derived.Test.YtomgcfjdmoefgaaDoorPackPlain
import Derived.Deep.OwnRows
namespace Go.Proofs.YtomgcfjdmoefgaaDoor
open Go Go.RowKit Go.BigFrame SortPlain PackPlain

theorem rin_yes (n lo hi : Int) (h1 : lo ≤ n) (h2 : n ≤ hi) (w : World) : Calls Tryd.prog 55 #[.int .i64 n, .int .i64 lo, .int .i64 hi] w fun e w' => e = .returned (.bool true) ∧ w = w' := by
  go_enter Tryd.func55, Tryd.ntmps55
  go_wp2
  go_ret
  exact ⟨rfl, rfl⟩
theorem rin_no (n lo hi : Int) (h : n < lo ∨ hi < n) (w : World) : Calls Tryd.prog 55 #[.int .i64 n, .int .i64 lo, .int .i64 hi] w fun e w' => e = .returned (.bool false) ∧ w = w' := by
  rcases Int.lt_or_le n lo with h1 | h1
  · clear h
    go_enter Tryd.func55, Tryd.ntmps55
    go_wp2
    go_ret
    exact ⟨rfl, rfl⟩
  · have h2 : hi < n := by omega
    have h3 : decide (n ≤ hi) = false := decide_eq_false (by omega)
    clear h
    go_enter Tryd.func55, Tryd.ntmps55
    go_wp2
    go_ret
    exact ⟨rfl, rfl⟩

/-! ### has -/
theorem loadA_abs (times on : List Int) (hb : ∀ t ∈ times, 0 ≤ t ∧ t ≤ 1000) (c : Int) : ∀ k, k ≤ times.length → 0 ≤ loadA times on k c ∧ loadA times on k c ≤ k * 1000 := by
  intro k
  induction k with
  | zero => intro _; simp [loadA, revRange, loadL]
  | succ k ih =>
    intro hk
    obtain ⟨i1, i2⟩ := ih (by omega)
    rw [loadA_succ]
    have hm : times.getD k 0 ∈ times := by
      rw [List.getD_eq_getElem?_getD, List.getElem?_eq_getElem (by omega)]; exact List.getElem_mem (by omega)
    have := hb _ hm
    split <;> omega
theorem has_any (times on : List Int) (c : Int) (a b : Option Addr) (cap cap' : Nat) (w : World) (hx : Ints w a times) (hy : Ints w b on) (hs : times.length ≤ 1000) (hl : on.length = times.length) (hb : ∀ t ∈ times, 0 ≤ t ∧ t ≤ 1000) :
    Calls Tryd.prog 74 #[.slice a times.length cap, .slice b times.length cap', .int .i64 c] w fun e w' => e = .returned (.int .i64 (loadA times on times.length c)) ∧ w' = w := by
  have HL := Lib.hid hl
  clear hl
  go_enter Tryd.func74, Tryd.ntmps74
  go_wp2
  go_loop [7, 8] (fun s i => ∃ k : Nat, i = .int .i64 k ∧ k ≤ times.length ∧ s = .int .i64 (loadA times on k c)) (fun _ i => times.length - (intOf i).toNat)
  case atStart => exact ⟨0, rfl, Nat.zero_le _, rfl⟩
  case round =>
    obtain ⟨k, rfl, hk, rfl⟩ := hrel
    rcases Nat.lt_or_ge k times.length with hlt | hge
    · obtain ⟨b1, o1, rfl, hc⟩ := hx.open (by omega)
      obtain ⟨b2, o2, rfl, hd⟩ := hy.open (by have := HL.out; omega)
      have hck := hc k hlt
      have hdk := hd k (by have := HL.out; omega)
      have hsu := loadA_succ times on k c
      have ha := loadA_abs times on hb c k hk
      have ha2 := loadA_abs times on hb c (k + 1) hlt
      rw [hsu] at ha2
      clear hc hd
      generalize loadA times on k c = sm at *
      generalize times.getD k 0 = t at *
      generalize on.getD k 0 = u at *
      have HS := Lib.hid hsu
      clear hsu
      by_cases e : u = c
      · have t1 : (u == c) = true := by rw [e]; simp
        rw [if_pos e] at ha2
        have E := Lib.hid e
        clear e
        go_wp2
        go_round
        case rel => exact ⟨k + 1, by go_num, by omega, by rw [HS.out, if_pos E.out]⟩
        case measure => simp only [intOf]; omega
      · have t1 : (u == c) = false := by rw [beq_eq_false_iff_ne]; exact e
        clear ha2
        have E := Lib.hid e
        clear e
        go_wp2
        go_round
        case rel => exact ⟨k + 1, by go_num, by omega, by rw [HS.out, if_neg E.out, Int.add_zero]⟩
        case measure => simp only [intOf]; omega
    · obtain rfl : times.length = k := by omega
      have h3 : decide (times.length < times.length) = false := by simp
      go_wp2
      go_ret
      exact ⟨rfl, rfl⟩

/-! ### By -/
/-- jobs at a: their times -/
def JAt (w : World) (a : Option Addr) (ts : List Int) : Prop := ts = [] ∨ ∃ g, a = some ⟨g, 0, none⟩ ∧ g < w.heap.size ∧ ∀ i, i < ts.length → w.cell? ⟨g, i * 3, none⟩ = some (.int .i64 (ts.getD i 0))
theorem JAt.below {w w' : World} {a : Option Addr} {ts : List Int} (h : JAt w a ts) (hb : Below w.heap.size w w') : JAt w' a ts := by
  rcases h with h | ⟨g, e, hg, hc⟩
  · exact .inl h
  · exact .inr ⟨g, e, Nat.lt_of_lt_of_le hg hb.size, fun i hi => (hb.cell (p := ⟨g, i * 3, none⟩) hg).trans (hc i hi)⟩
/-- those that were taken: the first ones -/
structure ByL (ts : List Int) (l : List Nat) : Prop where
  nd : l.Nodup
  lt : ∀ y ∈ l, y < ts.length
  sorted : l.Pairwise (Bef ts)
  ahead : ∀ y ∈ l, ∀ j, j < ts.length → j ∉ l → Bef ts y j
theorem ByL.zero (ts : List Int) : ByL ts [] := ⟨List.nodup_nil, by simp, List.Pairwise.nil, by simp⟩
theorem ByL.next {ts : List Int} {l : List Nat} (h : ByL ts l) {b : Nat} (hb : b < ts.length) (hn : b ∉ l) (hmin : ∀ j, j < ts.length → j ∉ l → j ≠ b → Bef ts b j) : ByL ts (l ++ [b]) := by
  refine ⟨List.nodup_append.2 ⟨h.nd, by simp, fun x hx y hy e => hn (by rw [List.mem_singleton] at hy; rw [← hy, ← e]; exact hx)⟩, fun y hy => ?_, List.pairwise_append.2 ⟨h.sorted, by simp, fun x hx y hy => ?_⟩, fun y hy j hj hjn => ?_⟩
  · rw [List.mem_append, List.mem_singleton] at hy
    rcases hy with c | c
    · exact h.lt y c
    · omega
  · rw [List.mem_singleton] at hy
    rw [hy]; exact h.ahead x hx b hb hn
  · rw [List.mem_append, List.mem_singleton] at hy hjn
    have n1 : j ∉ l := fun c => hjn (.inl c)
    have n2 : j ≠ b := fun c => hjn (.inr c)
    rcases hy with c | c
    · exact h.ahead y c j hj n1
    · rw [c]; exact hmin j hj n1 n2
theorem sub_lenN : ∀ {a b : List Nat}, a.Nodup → (∀ x ∈ a, x ∈ b) → a.length ≤ b.length
  | [], _, _, _ => Nat.zero_le _
  | x :: a, b, hn, hs => by
    rw [List.nodup_cons] at hn
    have hx := hs x (by simp)
    have h1 : (b.erase x).length = b.length - 1 := List.length_erase_of_mem hx
    have h2 := sub_lenN (b := b.erase x) hn.2 (fun y hy => (List.mem_erase_of_ne (fun c => hn.1 (by rw [← c]; exact hy))).2 (hs y (by simp [hy])))
    have h3 : 0 < b.length := List.length_pos_of_mem hx
    rw [List.length_cons]; omega
theorem sub_permN : ∀ {a b : List Nat}, a.Nodup → (∀ x ∈ a, x ∈ b) → b.length ≤ a.length → a.Perm b
  | [], b, _, _, hl => by
    have : b = [] := List.eq_nil_of_length_eq_zero (by simpa using hl)
    rw [this]
  | x :: a, b, hn, hs, hl => by
    rw [List.nodup_cons] at hn
    have hx := hs x (by simp)
    have h1 : (b.erase x).length = b.length - 1 := List.length_erase_of_mem hx
    rw [List.length_cons] at hl
    have h2 := sub_permN (b := b.erase x) hn.2 (fun y hy => (List.mem_erase_of_ne (fun c => hn.1 (by rw [← c]; exact hy))).2 (hs y (by simp [hy]))) (by omega)
    exact (h2.cons x).trans (List.perm_cons_erase hx).symm
theorem range_sub {n : Nat} {l : List Nat} (hn : l.Nodup) (hl : ∀ y ∈ l, y < n) : l.length ≤ n ∧ (l.length = n → l.Perm (List.range n)) ∧ (l.length < n → ∃ j, j < n ∧ j ∉ l) := by
  have hs : ∀ y ∈ l, y ∈ List.range n := fun y hy => List.mem_range.2 (hl y hy)
  refine ⟨by have := sub_lenN hn hs; simpa using this, fun h => sub_permN hn hs (by simp [h]), fun h => ?_⟩
  rcases Classical.em (∃ j, j < n ∧ j ∉ l) with c | c
  · exact c
  · exfalso
    have h2 := sub_lenN (a := List.range n) (b := l) List.nodup_range fun y hy => by
      rcases Classical.em (y ∈ l) with d | d
      · exact d
      · exact absurd ⟨y, List.mem_range.1 hy, d⟩ c
    simp at h2
    omega
theorem ByL.falls {ts : List Int} {l : List Nat} (h : ByL ts l) (hl : l.length = ts.length) : Falls ts ts.length l := ⟨(range_sub h.nd h.lt).2.1 hl, h.sorted⟩
/-- the best of those below i -/
def BestAt (ts : List Int) (l : List Nat) (i : Nat) (v : Value) : Prop :=
  (v = .int .i64 (-1) ∧ ∀ j, j < i → j ∈ l) ∨ ∃ b : Nat, v = .int .i64 b ∧ b < i ∧ b ∉ l ∧ ∀ j, j < i → j ∉ l → j ≠ b → Bef ts b j
structure ByRel (ts : List Int) (w : World) (l : List Nat) (ao : Option Addr) (capo : Nat) (wr : World) : Prop where
  own : Own wr (w.heap.size + 1) 3 ao capo (asInts l)
  row : wr.rowIs w.heap.size 4 ts.length (fun j => .bool (decide (j ∈ l)))
  bel : Below w.heap.size w wr
theorem rIntInfo : (Tryd.prog.info? 3).map (fun i => (i.zero, i.size, i.bytes)) = some (some (.int .i64 0), 1, 8) := by kernel_rfl
theorem rcell_new (w : World) (v : Int) (t : TypeId) (g : Nat) (hg : g = w.heap.size) : ∀ j u, [Value.int .i64 v][j]? = some u → (w.alloc (.cells #[.int .i64 v] t)).cell? ((⟨g, 0, none⟩ : Addr).add j) = some u := by
  subst hg; exact cell_one_new w _ t
theorem ByRel.next {ts : List Int} {w : World} {l : List Nat} {ao : Option Addr} {capo : Nat} {wr : World} (R : ByRel ts w l ao capo wr) (b : Nat) (v2 : Value) (w4 : World)
    (own2 : w4.ownsRow (w.heap.size + 1) 3 1 v2 (l.length + 1) ((asInts l).map (Value.int .i64) ++ [.int .i64 b]))
    (gr2 : ((wr.setCell ⟨w.heap.size, b, none⟩ (.bool true)).alloc (.cells #[.int .i64 b] 3)).grownBy w4 (Value.slice ao l.length capo).ownBlock) :
    ∃ a' c', v2 = .slice a' (l.length + 1) c' ∧ ByRel ts w (l ++ [b]) a' c' w4 := by
  have e : (asInts (l ++ [b])).map (Value.int .i64) = (asInts l).map (Value.int .i64) ++ [.int .i64 b] := by simp [asInts]
  rw [← e] at own2
  obtain ⟨a2, c2, rfl, O⟩ := Own.of own2
  have hw := R.row.lt
  have hz : (wr.setCell ⟨w.heap.size, b, none⟩ (.bool true)).heap.size = wr.heap.size := by simp [World.setCell]
  have hb1 : Below (w.heap.size + 1) (wr.setCell ⟨w.heap.size, b, none⟩ (.bool true)) w4 := by
    refine ((Below.refl _ _).alloc (by rw [hz]; omega) _).grown gr2 (by simp [World.setCell]; omega) fun j hj => ?_
    have h := R.own.lt j
    rw [asInts_length] at h
    exact (h hj).1
  refine ⟨a2, c2, by rw [asInts_length]; simp, O, ?_, ?_⟩
  · refine ((R.row.set b (.bool true)).of_block (hb1.block _ (Nat.lt_succ_self _))).congr fun j _ => ?_
    by_cases e : j = b
    · subst e; rw [if_pos rfl]; simp
    · rw [if_neg e]; simp [e]
  · exact (R.bel.setCell (p := ⟨w.heap.size, b, none⟩) (Nat.le_refl _) _).trans (hb1.mono (Nat.le_succ _))

set_option maxRecDepth 100000 in
set_option maxHeartbeats 4000000 in
theorem by2_any (ts : List Int) (a : Option Addr) (cap : Nat) (w : World) (hj : JAt w a ts) (hs : ts.length ≤ 16) :
    Calls Tryd.prog 87 #[.slice a ts.length cap, .int .i64 2] w fun e w' => ∃ ord a' c', e = .returned (.slice a' ts.length c') ∧ Falls ts ts.length ord ∧ Own w' w.heap.size 3 a' c' (asInts ord) ∧ Below w.heap.size w w' := by
  obtain ⟨i0, hi, hz0, hz1, hz2⟩ := info_parts rIntInfo
  have hmk := fun w => run_make_row' (P := Tryd.prog) 106 4 (.bool false) 1 Tryd.underlying106 (by kernel_rfl) rfl .i64 .i64 ts.length (by omega) (by omega) w
  have k20 : ((2 : Int) == 0) = false := by decide
  have k21 : ((2 : Int) == 1) = false := by decide
  have k22 : ((2 : Int) == 2) = true := by decide
  have kn1 : decide ((-1 : Int) < 0) = true := by decide
  go_enter Tryd.func87, Tryd.ntmps87
  go_wp2
  go_loopw [5, 7] (fun out n wr => ∃ (l : List Nat) (ao : Option Addr) (capo : Nat), n = .int .i64 l.length ∧ out = .slice ao l.length capo ∧ ByL ts l ∧ ByRel ts w l ao capo wr) (fun _ n _ => ts.length - (intOf n).toNat)
  case atStart =>
    exact ⟨[], none, 0, rfl, rfl, ByL.zero ts, Own.nil _ _ _, (World.rowIs_made w (.bool false) ts.length 4).congr (fun j _ => by simp), (Below.refl _ _).alloc (Nat.le_refl _) _⟩
  case round =>
    obtain ⟨l, ao, capo, rfl, rfl, hL, R⟩ := hrel
    have hll := (range_sub hL.nd hL.lt).1
    rcases Nat.lt_or_ge l.length ts.length with hlt | hge
    · obtain ⟨j0, j1, j2⟩ := (range_sub hL.nd hL.lt).2.2 hlt
      rcases hj.below R.bel with h | ⟨g, rfl, hg, hc⟩
      · rw [h] at hlt; simp at hlt
      have HL := Lib.hid hL
      have HR := Lib.hid R
      have HC := Lib.hid hc
      clear hL R hc
      go_wp2
      obtain ⟨w5, hw5⟩ : ∃ w5, w5 = wr := ⟨_, rfl⟩
      subst hw5
      go_loopw [8, 9] (fun best i wx => ∃ k : Nat, i = .int .i64 k ∧ k ≤ ts.length ∧ BestAt ts l k best ∧ ∃ q, wx = w5.drewN q) (fun _ i _ => ts.length - (intOf i).toNat)
      case atStart => exact ⟨0, rfl, Nat.zero_le _, .inl ⟨rfl, fun j hj => by omega⟩, 0, rfl⟩
      case round =>
        obtain ⟨k, rfl, hk, hB, q, rfl⟩ := hrel
        rcases Nat.lt_or_ge k ts.length with hkl | hkl
        · have c0 := HC.out k hkl
          have r0 := HR.out.row.cell hkl
          have hkI : (k : Int) < ts.length := by omega
          by_cases hm : k ∈ l
          · have r1 : w5.cell? ⟨w.heap.size, k, none⟩ = some (.bool true) := by rw [r0, decide_eq_true hm]
            clear r0
            have HB0 := Lib.hid hB
            have HB := Lib.hid (show ∀ v, BestAt ts l k v → BestAt ts l (k + 1) v from fun v hB => by
              rcases hB with ⟨h1, h2⟩ | ⟨b, h1, h2, h3, h4⟩
              · exact .inl ⟨h1, fun j hj => by
                  rcases Nat.lt_or_ge j k with c | c
                  · exact h2 j c
                  · obtain rfl : j = k := by omega
                    exact hm⟩
              · exact .inr ⟨b, h1, by omega, h3, fun j hj hjn hne => by
                  rcases Nat.lt_or_ge j k with c | c
                  · exact h4 j c hjn hne
                  · obtain rfl : j = k := by omega
                    exact absurd hm hjn⟩)
            clear hB hm c0
            go_wp2
            go_roundw
            case rel => exact ⟨k + 1, by go_num, by omega, HB.out _ HB0.out, q, rfl⟩
            case measure => simp only [intOf]; omega
          · have r1 : w5.cell? ⟨w.heap.size, k, none⟩ = some (.bool false) := by rw [r0, decide_eq_false hm]
            clear r0
            rcases hB with ⟨rfl, h2⟩ | ⟨b, rfl, h2, h3, h4⟩
            · have HB : Hid (BestAt ts l (k + 1) (.int .i64 k)) := Lib.hid (.inr ⟨k, rfl, Nat.lt_succ_self _, hm, fun j hj hjn hne => absurd (h2 j (by omega)) hjn⟩)
              clear h2 hm
              go_wp2
              simp only [List.append]
              go_quiet (fail)
              go_wp2
              go_roundw
              case rel => exact ⟨k + 1, by go_num, by omega, HB.out, _, by first | rfl | rw [World.drewN_drewN]⟩
              case measure => simp only [intOf]; omega
            · have c1 := HC.out b (by omega)
              have hbI : (b : Int) < ts.length := by omega
              have hbn : decide ((b : Int) < 0) = false := decide_eq_false (by omega)
              rcases Int.lt_or_le (ts.getD b 0) (ts.getD k 0) with h | h
              · have HB : Hid (BestAt ts l (k + 1) (.int .i64 k)) := Lib.hid (.inr ⟨k, rfl, Nat.lt_succ_self _, hm, fun j hj hjn hne => by
                  have hkb : Bef ts k b := .inl h
                  by_cases e : j = b
                  · rw [e]; exact hkb
                  · exact hkb.trans (h4 j (by omega) hjn e)⟩)
                clear h2 h3 h4 hm
                generalize ts.getD b 0 = u at *
                generalize ts.getD k 0 = v at *
                go_wp2
                simp only [List.append]
                go_quiet (fail)
                go_wp2
                go_roundw
                case rel => exact ⟨k + 1, by go_num, by omega, HB.out, _, by first | rfl | rw [World.drewN_drewN]⟩
                case measure => simp only [intOf]; omega
              · have HB : Hid (BestAt ts l (k + 1) (.int .i64 b)) := Lib.hid (.inr ⟨b, rfl, by omega, h3, fun j hj hjn hne => by
                  rcases Nat.lt_or_ge j k with c | c
                  · exact h4 j c hjn hne
                  · obtain rfl : j = k := by omega
                    unfold Bef; omega⟩)
                clear h2 h3 h4 hm
                generalize ts.getD b 0 = u at *
                generalize ts.getD k 0 = v at *
                go_wp2
                simp only [List.append]
                go_quiet (fail)
                go_wp2
                go_roundw
                case rel => exact ⟨k + 1, by go_num, by omega, HB.out, _, by first | rfl | rw [World.drewN_drewN]⟩
                case measure => simp only [intOf]; omega
        · obtain rfl : ts.length = k := by omega
          have h3 : decide (ts.length < ts.length) = false := by simp
          rcases hB with ⟨_, h2⟩ | ⟨b, rfl, hb, hbn, hmin⟩
          · exact absurd (h2 j0 j1) j2
          · have R6 : ByRel ts w l ao capo (w5.drewN q) := ⟨HR.out.own.drewN q, HR.out.row, drewN_below HR.out.bel q⟩
            obtain ⟨w6, hw6⟩ : ∃ w6, w6 = w5.drewN q := ⟨_, rfl⟩
            rw [← hw6] at R6 ⊢
            clear hw6 HR
            have HR := Lib.hid R6
            clear R6
            have HL2 := Lib.hid (HL.out.next hb hbn (fun j hj hjn hne => hmin j hj hjn hne))
            have r0 := HR.out.row.cell hb
            have f0 := HR.out.row.frozen b
            have hbI : (b : Int) < ts.length := by omega
            have hsz : w.heap.size + 1 ≤ w6.heap.size := HR.out.row.lt
            have HN := Lib.hid (fun v2 w4 => HR.out.next b v2 w4)
            have hown := HR.out.own.below (p := ⟨w.heap.size, b, none⟩) (Nat.lt_succ_self _) (.bool true)
            unfold Own at hown
            rw [asInts_length] at hown
            have HOwn := Lib.hid hown
            clear hown hmin hbn
            go_wp2_with (at_builtin; refine wpList_append_own _ rfl _ _ 22 rfl (w.heap.size + 1) 3 i0 (.int .i64 0) 1 8 Tryd.underlying22 hi hz0 hz1 hz2 rfl (by decide) (.slice ao l.length capo) l.length ((asInts l).map (Value.int .i64)) rfl (World.ownsRow.alloc HOwn.out _) ⟨_, 0, none⟩ 1 1 [.int .i64 b] rfl rfl (rcell_new _ _ _ _ (by simp)) (by simp [Value.oneCell']) (by unfold maxLen; omega) (by omega) (by simp [World.setCell]; omega) ?_; intro v2 w4 own2 gr2 _; obtain ⟨a2, c2, rfl, HR2⟩ := HN.out v2 w4 own2 gr2; have HR3 := Lib.hid HR2; clear HR2 own2 gr2)
            go_roundw
            case rel => exact ⟨l ++ [b], a2, c2, by rw [List.length_append]; go_num, by rw [List.length_append]; rfl, HL2.out, HR3.out⟩
            case measure => simp only [intOf]; omega
    · have hle : l.length = ts.length := by omega
      have HF := Lib.hid (hL.falls hle)
      have HR := Lib.hid R
      have h3 : decide (l.length < ts.length) = false := decide_eq_false (by omega)
      have Hle := Lib.hid hle
      clear hL R hle
      go_wp2
      go_ret
      exact ⟨l, ao, capo, by first | rfl | (rw [Hle.out]; rfl), HF.out, HR.out.own.mono (Nat.le_succ _), HR.out.bel⟩

/-! ### longest -/
def flatJ (ts : List Int) : List Value := ts.flatMap fun t => [.int .i64 t, .int .i64 0, .int .i64 0]
theorem flatJ_snoc (ts : List Int) (t : Int) : flatJ (ts ++ [t]) = flatJ ts ++ [.int .i64 t, .int .i64 0, .int .i64 0] := by simp [flatJ]
theorem flatJ_length (ts : List Int) : (flatJ ts).length = ts.length * 3 := by
  induction ts with
  | nil => rfl
  | cons t ts ih => simp only [flatJ, List.flatMap_cons, List.length_append, List.length_cons, List.length_nil] at ih ⊢; omega
theorem flatJ_get : ∀ (ts : List Int) (i : Nat), i < ts.length → (flatJ ts)[i * 3]? = some (.int .i64 (ts.getD i 0))
  | [], i, h => by simp at h
  | t :: ts, 0, _ => by simp [flatJ]
  | t :: ts, i + 1, h => by
    have ih := flatJ_get ts i (by simpa using h)
    rw [show flatJ (t :: ts) = [.int .i64 t, .int .i64 0, .int .i64 0] ++ flatJ ts from rfl, List.getElem?_append_right (by simp; omega)]
    rw [show (i + 1) * 3 - [Value.int .i64 t, .int .i64 0, .int .i64 0].length = i * 3 by simp; omega, ih]
    simp
def JOwn (w : World) (B : Nat) (a : Option Addr) (cap : Nat) (ts : List Int) : Prop := w.ownsRow B 109 3 (.slice a ts.length cap) ts.length (flatJ ts)
theorem JOwn.jat {w : World} {B : Nat} {a : Option Addr} {cap : Nat} {ts : List Int} (h : JOwn w B a cap ts) : JAt w a ts := by
  by_cases h0 : ts.length = 0
  · exact .inl (List.eq_nil_of_length_eq_zero h0)
  rcases h.2 with ⟨_, hz⟩ | ⟨g, cap', cur, h', hb, hg, hc, hm, hs, ht⟩
  · omega
  · simp only [Value.slice.injEq, true_and] at h'
    obtain ⟨rfl, rfl⟩ := h'
    refine .inr ⟨g, rfl, lt_of_block hg, fun i hi => ?_⟩
    rw [cell_of_row w g (i * 3) cur _ (0, 0) hg]
    have h1 : (cur.toList.take (ts.length * 3))[i * 3]? = (flatJ ts)[i * 3]? := by rw [ht]
    rw [List.getElem?_take_of_lt (by omega)] at h1
    rw [← Array.getElem?_toList, h1, flatJ_get ts i hi]
theorem jobInfo : (Tryd.prog.info? 109).map (fun i => (i.zero, i.size, i.bytes)) = some (some (.agg #[.int .i64 0, .int .i64 0, .int .i64 0]), 3, 24) := by kernel_rfl
theorem jcell_new (w : World) (v : Int) (t : TypeId) (g : Nat) (hg : g = w.heap.size) : ∀ j u, [Value.int .i64 v, .int .i64 0, .int .i64 0][j]? = some u → (w.alloc (.cells #[.int .i64 v, .int .i64 0, .int .i64 0] t)).cell? ((⟨g, 0, none⟩ : Addr).add j) = some u := by
  subst hg
  intro j u hu
  have h : (w.alloc (.cells #[.int .i64 v, .int .i64 0, .int .i64 0] t)).heap[w.heap.size]? = some (.cells #[.int .i64 v, .int .i64 0, .int .i64 0] t (0, 0)) := heap_alloc_new w _
  have e : ((⟨w.heap.size, 0, none⟩ : Addr).add j) = ⟨w.heap.size, j, none⟩ := by unfold Addr.add; split <;> simp_all
  rw [e, cell_of_row _ _ _ _ _ _ h]
  rw [← Array.getElem?_toList]; exact hu
set_option maxHeartbeats 1000000 in
theorem longest_any (ts : List Int) (a : Option Addr) (cap : Nat) (w : World) (hx : Ints w a ts) (hs : ts.length ≤ 16) :
    Calls Tryd.prog 73 #[.slice a ts.length cap] w fun e w' => ∃ ord a' c', e = .returned (.slice a' ts.length c') ∧ Falls ts ts.length ord ∧ Own w' w.heap.size 3 a' c' (asInts ord) ∧ Below w.heap.size w w' := by
  obtain ⟨i0, hi, hz0, hz1, hz2⟩ := info_parts jobInfo
  go_enter Tryd.func73, Tryd.ntmps73
  go_wp2
  go_loopw [3, 4] (fun l i wr => ∃ (k : Nat) (al : Option Addr) (capl : Nat), i = .int .i64 k ∧ k ≤ ts.length ∧ l = .slice al k capl ∧ wr.ownsRow w.heap.size 109 3 (.slice al k capl) k (flatJ (ts.take k)) ∧ Below w.heap.size w wr) (fun _ i _ => ts.length - (intOf i).toNat)
  case atStart => exact ⟨0, none, 0, rfl, Nat.zero_le _, rfl, World.ownsRow_nil _ _ _ _, Below.refl _ _⟩
  case round =>
    obtain ⟨k, al, capl, rfl, hk, rfl, hown, hbr⟩ := hrel
    rcases Nat.lt_or_ge k ts.length with hlt | hge
    · obtain ⟨b, o, rfl, hc⟩ := (hx.below hbr).open (by omega)
      have hck := hc k hlt
      have htk : ts.take (k + 1) = ts.take k ++ [ts.getD k 0] := by rw [List.take_add_one, List.getD_eq_getElem?_getD, List.getElem?_eq_getElem hlt]; rfl
      generalize ts.getD k 0 = t at *
      have hpost : ∀ v2 w4, w4.ownsRow w.heap.size 109 3 v2 (k + 1) (flatJ (ts.take k) ++ [.int .i64 t, .int .i64 0, .int .i64 0]) → (wr.alloc (.cells #[.int .i64 t, .int .i64 0, .int .i64 0] 109)).grownBy w4 (Value.slice al k capl).ownBlock →
          ∃ a' c', v2 = .slice a' (k + 1) c' ∧ w4.ownsRow w.heap.size 109 3 (.slice a' (k + 1) c') (k + 1) (flatJ (ts.take (k + 1))) ∧ Below w.heap.size w w4 := fun v2 w4 o2 g2 => by
        rw [← flatJ_snoc, ← htk] at o2
        have hb4 : Below w.heap.size w w4 := (hbr.alloc hbr.size _).grown g2 (by have := hbr.size; simp; omega) fun j hj => (World.ownsRow.lt hown j hj).1
        have o3 := o2
        rcases o2.2 with ⟨_, hz⟩ | ⟨g, c, cur, rfl, _⟩
        · omega
        · exact ⟨_, _, rfl, o3, hb4⟩
      have HP := Lib.hid hpost
      have HO := Lib.hid hown
      have hsz := hbr.size
      clear hc hown hpost htk hbr
      go_wp2_with (at_builtin; refine wpList_append_own _ rfl _ _ 107 rfl w.heap.size 109 i0 (.agg #[.int .i64 0, .int .i64 0, .int .i64 0]) 3 24 Tryd.underlying107 hi hz0 hz1 hz2 rfl (by decide) (.slice al k capl) k (flatJ (ts.take k)) rfl (World.ownsRow.alloc HO.out _) ⟨_, 0, none⟩ 1 1 [.int .i64 t, .int .i64 0, .int .i64 0] rfl rfl (jcell_new _ _ _ _ (by simp)) (by simp [Value.oneCell']) (by unfold maxLen; omega) (by omega) (by simp; omega) ?_; intro v2 w4 own2 gr2 _; obtain ⟨a2, c2, rfl, o4, b4⟩ := HP.out v2 w4 own2 gr2; have HO4 := Lib.hid o4; have HB4 := Lib.hid b4; clear o4 b4 own2 gr2)
      go_roundw
      case rel => exact ⟨k + 1, a2, c2, by go_num, by omega, rfl, HO4.out, HB4.out⟩
      case measure => simp only [intOf]; omega
    · obtain rfl : ts.length = k := by omega
      have h3 : decide (ts.length < ts.length) = false := by simp
      rw [List.take_length] at hown
      have hJ : JAt wr al ts := JOwn.jat (B := w.heap.size) (cap := capl) hown
      have HB := Lib.hid (by2_any ts al capl wr hJ hs)
      have HBr := Lib.hid hbr
      clear hown hbr hJ
      go_wp2_with fail
      refine HB.out.mono ?_
      rintro e w2 ⟨ord, a2, c2, rfl, hF, hO, hb⟩
      have HF := Lib.hid hF
      have HO := Lib.hid (hO.mono HBr.out.size)
      have HB2 := Lib.hid (HBr.out.trans (hb.mono HBr.out.size))
      clear hF hO hb
      go_wp2
      go_ret
      exact ⟨ord, a2, c2, rfl, HF.out, HO.out, HB2.out⟩
end Go.Proofs.YtomgcfjdmoefgaaDoor
