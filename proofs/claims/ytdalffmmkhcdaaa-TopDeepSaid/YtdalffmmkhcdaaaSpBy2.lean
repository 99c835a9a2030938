/- WALK: slots.by. -/
import Derived.Test.YtdalffmmkhcdaaaSpBy
import Derived.Deep.OwnRows
set_option linter.unusedVariables false
set_option linter.unusedSimpArgs false
namespace Go.Proofs.Ytdalffmmkhcdaaa
open Go Go.RowKit SimPlain HeapPlain SymPlain

theorem tag_length (l : List Ev) : (tag l).length = l.length := by simp [tag]
theorem tag_bef (l : List Ev) : (tag l).Pairwise Bef := by
  unfold tag
  rw [List.pairwise_map]
  refine (List.pairwise_lt_range (n := l.length)).imp fun h => ?_
  show ((_ : Nat) : Int) < ((_ : Nat) : Int)
  omega
theorem tag_vals (l : List Ev) (xs : List Int) (hl : xs.length = l.length) (h : ∀ j, j < l.length → xs.getD j 0 = (j : Int)) : ixVals (tag l) = (xs.map (Value.int .i64)).toArray := by
  unfold ixVals
  congr 1
  apply List.ext_getElem
  · simp [tag, hl]
  · intro i h1 h2
    have hi : i < l.length := by simpa [tag] using h1
    have := h i hi
    rw [List.getD_eq_getElem?_getD, List.getElem?_eq_getElem (by omega)] at this
    simp only [Option.getD_some] at this
    simp [tag, tagAt, this]
theorem by_sort (l : List Ev) (a : Option Addr) (cap N P G : Nat) (wr : World) (hN : N = l.length) (h24 : N ≤ 24) (hPG : P + 1 < G)
    (hx : l = [] ∨ ∃ b off, a = some ⟨b, off, none⟩ ∧ b < G ∧ ∀ i, i < l.length → wr.cell? ⟨b, off + i * 2, none⟩ = some (.int .i64 (l.getD i e0).t) ∧ wr.cell? ⟨b, off + i * 2 + 1, none⟩ = some (.int .i64 (l.getD i e0).id))
    (hl1 : wr.heap[P]? = some (.cells #[.slice a N cap] 22 (0, 0))) (hf1 : wr.heap[P + 1]? = some (.cells #[fvW] 50 (0, 0))) (hg : wr.heap[G]? = some (.cells (ixVals (tag l)) 3 (0, 0))) :
    Calls Try.prog 24 #[.slice (some ⟨G, 0, none⟩) N N, .func (.func 25) #[] #[.pointer (some ⟨P + 1, 0, none⟩), .pointer (some ⟨P, 0, none⟩)]] wr
      fun e w' => ∃ W, e = .returned (.tuple #[]) ∧ W.Perm (tag l) ∧ W.Pairwise Lt ∧ w'.heap[G]? = some (.cells (ixVals W) 3 (0, 0)) ∧ Below G wr w' := by
  have hGl := lt_of_block hg
  rcases hx with rfl | ⟨b, off, rfl, hb, hc⟩
  · obtain rfl : N = 0 := by simpa using hN
    have h := sortStable_none (some ⟨G, 0, none⟩) 0 ⟨G, wr, P + 1, P, fun _ => False, fun x y W h => h.elim⟩ wr
    unfold fvK at h
    refine h.mono ?_
    rintro e w' ⟨rfl, rfl⟩
    exact ⟨[], rfl, List.Perm.refl _, List.Pairwise.nil, hg, Below.refl _ _⟩
  · rcases Nat.eq_zero_or_pos N with h0 | h0
    · subst h0
      obtain rfl : l = [] := List.eq_nil_of_length_eq_zero hN.symm
      have h := sortStable_none (some ⟨G, 0, none⟩) 0 ⟨G, wr, P + 1, P, fun _ => False, fun x y W h => h.elim⟩ wr
      unfold fvK at h
      refine h.mono ?_
      rintro e w' ⟨rfl, rfl⟩
      exact ⟨[], rfl, List.Perm.refl _, List.Pairwise.nil, hg, Below.refl _ _⟩
    · have hcmp : ∀ (x y : Ev) (W : World), (∃ i, i < l.length ∧ x = tagAt l i) → (∃ i, i < l.length ∧ y = tagAt l i) → Below G wr W → Calls Try.prog 25 #[.int .i64 x.s, .int .i64 y.s, .pointer (some ⟨P + 1, 0, none⟩), .pointer (some ⟨P, 0, none⟩)] W
          fun e w' => e = .returned (.int .i64 (cmpZ x.t y.t)) ∧ Only W w' (fun _ => False) := by
        rintro x y W ⟨i, hi, rfl⟩ ⟨j, hj, rfl⟩ hB
        have hs := hB.size
        exact by1_any l b off cap (P + 1) P i j W hi hj (by omega) (by omega) (fun i hi => ⟨(hB.cell (p := ⟨b, off + i * 2, none⟩) hb).trans (hc i hi).1, (hB.cell (p := ⟨b, off + i * 2 + 1, none⟩) hb).trans (hc i hi).2⟩)
          ((hB.block (P + 1) hPG).trans hf1) (by rw [← hN]; exact (hB.block P (by omega)).trans hl1)
      have h := sortStable_any (tag l) (tag_bef l) N (by rw [tag_length]; exact hN) (by omega) h0 G N ⟨G, wr, P + 1, P, fun x => ∃ i, i < l.length ∧ x = tagAt l i, hcmp⟩ wr
        ⟨⟨G, rfl, Nat.le_refl _, hg⟩, Below.refl _ _, fun x hx => by
          unfold tag at hx
          obtain ⟨i, hi, rfl⟩ := List.mem_map.1 hx
          exact ⟨i, List.mem_range.1 hi, rfl⟩⟩
      unfold fvK at h
      refine h.mono ?_
      rintro e w' ⟨W, rfl, hp, hs, hI, hO⟩
      exact ⟨W, rfl, hp, hs, hI.at.2, hO.below (Nat.le_of_lt hGl) (fun k hk => by omega)⟩
def ByRes (l : List Ev) (N : Nat) (w : World) (e : Ending) (w' : World) : Prop :=
  ∃ g W, e = .returned (.slice (some ⟨g, 0, none⟩) N N) ∧ w.heap.size ≤ g ∧ W.Perm (tag l) ∧ W.Pairwise Lt ∧ w'.heap[g]? = some (.cells (ixVals W) 3 (0, 0)) ∧ Below w.heap.size w w'
set_option maxRecDepth 100000 in
set_option maxHeartbeats 4000000 in
theorem by_any (l : List Ev) (a : Option Addr) (cap : Nat) (w : World) (hx : EvA w a l) (h24 : l.length ≤ 24) (N : Nat) (hN : N = l.length) :
    Calls Try.prog 13 #[.slice a N cap, fvW] w (ByRes l N w) := by
  have HX := Lib.hid hx
  have HN := Lib.hid hN
  rw [← hN] at h24
  clear hx hN
  have hmk := fun w => run_make_row' (P := Try.prog) 28 3 (.int .i64 0) 8 Try.underlying28 (by kernel_rfl) rfl .i64 .i64 N (by omega) (by omega) w
  obtain ⟨w1, hw1⟩ : ∃ w1, w1 = (w.alloc (.cells #[.slice a N cap] 22)).alloc (.cells #[fvW] 50) := ⟨_, rfl⟩
  have hs1 : w1.heap.size = w.heap.size + 2 := by rw [hw1]; simp
  have hb1 : Below w.heap.size w w1 := by rw [hw1]; exact ((Below.refl _ _).alloc (Nat.le_refl _) _).alloc (by simp) _
  have hl1 : w1.heap[w.heap.size]? = some (.cells #[.slice a N cap] 22 (0, 0)) := by
    rw [hw1, Below.heap_alloc _ _ _ (by simp)]; exact heap_alloc_new _ _
  have hf1 : w1.heap[w.heap.size + 1]? = some (.cells #[fvW] 50 (0, 0)) := by
    rw [hw1]
    have := heap_alloc_new (w.alloc (.cells #[.slice a N cap] 22)) (.cells #[fvW] 50)
    simpa using this
  obtain ⟨w2, hw2⟩ : ∃ w2, w2 = w1.alloc (.cells (madeCells #[.int .i64 0] N) 3) := ⟨_, rfl⟩
  have hr2 : Row w2 w1.heap.size 3 (List.replicate N 0) := by rw [hw2]; exact Row.made w1 3 N
  have hb2 : Below w1.heap.size w1 w2 := by rw [hw2]; exact (Below.refl _ _).alloc (Nat.le_refl _) _
  unfold fvW at *
  go_enter Try.func13, Try.ntmps13
  obtain ⟨P, hP⟩ : ∃ P, P = w.heap.size := ⟨_, rfl⟩
  obtain ⟨G, hG⟩ : ∃ G, G = w1.heap.size := ⟨_, rfl⟩
  have hGP : G = P + 2 := by rw [hG, hs1, hP]
  rw [← hG] at hr2 hb2
  rw [← hP] at hl1 hf1 hb1
  have Hl1 := Lib.hid hl1
  have Hf1 := Lib.hid hf1
  have HB1 := Lib.hid hb1
  have HR2 := Lib.hid hr2
  have HB2 := Lib.hid hb2
  have HP := Lib.hid hP
  have c1 : w1.cell? ⟨P, 0, none⟩ = some (.slice a N cap) := by simp [World.cell?, hl1]
  clear hl1 hf1 hb1 hr2 hb2 hs1
  go_upto_region 2 with fail
  rw [← hw1, ← hw2, ← hP, show P + 1 + 1 = G by omega]
  have Hw2 := Lib.hid hw2
  have HGP := Lib.hid hGP
  clear hw1 hw2 hmk hP hG hGP c1
  go_wp2
  go_loopw [12] (fun iv wr => ∃ (k : Nat) (xs : List Int), iv = .int .i64 k ∧ k ≤ N ∧ xs.length = N ∧ (∀ j, j < k → xs.getD j 0 = (j : Int)) ∧ Row wr G 3 xs ∧ Below G w2 wr) (fun iv _ => N - (intOf iv).toNat)
  case atStart => exact ⟨0, List.replicate N 0, rfl, Nat.zero_le _, by simp, fun j hj => by omega, HR2.out, Below.refl _ _⟩
  case round =>
    obtain ⟨k, xs, rfl, hk, hxs, hall, hrow, hbel⟩ := hrel
    rcases Nat.lt_or_ge k N with hlt | hge
    · have ck := hrow.cell k (by omega)
      have fk := hrow.free k
      have hltI : (k : Int) < (N : Int) := by omega
      have HR : Hid (Row (wr.setCell ⟨G, k, none⟩ (.int .i64 (k : Int))) G 3 (xs.set k (k : Int))) := Lib.hid (hrow.set k _)
      have HA : Hid (∀ j, j < k + 1 → (xs.set k (k : Int)).getD j 0 = (j : Int)) := Lib.hid fun j hj => by
        rw [getD_set 0 xs k j _ (by omega)]
        by_cases e : j = k
        · rw [if_pos e, e]
        · rw [if_neg e]; exact hall j (by omega)
      have HBe := Lib.hid hbel
      have HXs : Hid ((xs.set k (k : Int)).length = N) := Lib.hid (by rw [List.length_set]; exact hxs)
      generalize xs.set k (k : Int) = xs2 at HR HA HXs
      clear hrow hall hbel hxs
      go_wp2
      go_roundw
      case rel => exact ⟨k + 1, xs2, by go_num, by omega, HXs.out, HA.out, HR.out, HBe.out.setCell (p := ⟨G, k, none⟩) (Nat.le_refl _) _⟩
      case measure => simp only [intOf]; omega
    · obtain rfl : N = k := by omega
      have h3 : decide (N < N) = false := by simp
      have HR := Lib.hid hrow
      have HBe := Lib.hid hbel
      have HA := Lib.hid hall
      have HXs := Lib.hid hxs
      clear hrow hbel hall hxs
      have hB12 : Below P w wr := by
        have h1 := HB1.out
        have h2 := HB2.out.mono (show P ≤ G by have := HGP.out; omega)
        exact (h1.trans h2).trans (HBe.out.mono (show P ≤ G by have := HGP.out; omega))
      have hS := by_sort l a cap N P G wr HN.out h24 (by have := HGP.out; omega)
        (by
          rcases HX.out with h | ⟨b, off, rfl, hb, hc⟩
          · exact .inl h
          · rw [← HP.out] at hb
            exact .inr ⟨b, off, rfl, by have := HGP.out; omega, fun i hi => ⟨(hB12.cell (p := ⟨b, off + i * 2, none⟩) hb).trans (hc i hi).1, (hB12.cell (p := ⟨b, off + i * 2 + 1, none⟩) hb).trans (hc i hi).2⟩⟩)
        ((HBe.out.block P (by have := HGP.out; omega)).trans ((HB2.out.block P (by have := HGP.out; omega)).trans Hl1.out))
        ((HBe.out.block (P + 1) (by have := HGP.out; omega)).trans ((HB2.out.block (P + 1) (by have := HGP.out; omega)).trans Hf1.out))
        (by
          rw [tag_vals l xs (by rw [HXs.out]; exact HN.out) (fun j hj => HA.out j (by rw [HN.out]; exact hj))]
          exact HR.out)
      have HS := Lib.hid hS
      have HB := Lib.hid hB12
      clear hS hB12
      go_wp2_with fail
      refine HS.out.mono ?_
      rintro e w5 ⟨W, rfl, hp, hs, hg, hb5⟩
      have Hfin : Hid (ByRes l N w (.returned (.slice (some ⟨G, 0, none⟩) N N)) w5) := Lib.hid ⟨G, W, rfl, by have := HGP.out; have := HP.out; omega, hp, hs, hg, by
        rw [← HP.out]
        exact HB.out.trans (hb5.mono (by have := HGP.out; omega))⟩
      clear hp hs hg hb5
      go_wp2
      go_ret
      exact Hfin.out
end Go.Proofs.Ytdalffmmkhcdaaa
