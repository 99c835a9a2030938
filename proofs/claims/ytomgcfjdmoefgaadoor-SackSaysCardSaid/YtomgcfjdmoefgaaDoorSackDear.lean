/- WALKS: the closure that compares goods; sack.dear. -/
import Derived.Test.YtomgcfjdmoefgaaDoorSackWalks
import Derived.Deep.OwnRows
namespace Go.Proofs.YtomgcfjdmoefgaaDoor
open Go Go.RowKit SackPlain
open SortPlain (asInts asInts_length)

def dearL (l : List Gd) (i j : Nat) : Prop := vOf l j * wOf l i < vOf l i * wOf l j
def dearR (l : List Gd) (i j : Nat) : Prop := dearL l i j ∨ (vOf l j * wOf l i = vOf l i * wOf l j ∧ i < j)
instance (l : List Gd) (i j : Nat) : Decidable (dearL l i j) := inferInstanceAs (Decidable (_ < _))
theorem wv_range {l : List Gd} (h : Ok l) (i : Nat) : 1 ≤ wOf l i ∧ wOf l i ≤ 300 ∧ 0 ≤ vOf l i ∧ vOf l i ≤ 1000 := by
  unfold wOf vOf
  rcases Nat.lt_or_ge i l.length with hi | hi
  · exact h.all _ (getD_mem hi)
  · rw [List.getD_eq_getElem?_getD, List.getElem?_eq_none hi]; decide
theorem mul_range {x y : Int} (h0 : 0 ≤ x) (h1 : x ≤ 1000) (h2 : 0 ≤ y) (h3 : y ≤ 300) : 0 ≤ x * y ∧ x * y ≤ 300000 := by
  have a := Int.mul_nonneg h0 h2
  have b : x * y ≤ 1000 * 300 := Int.mul_le_mul h1 h3 h2 (by decide)
  exact ⟨a, by omega⟩
theorem dear_le_trans {l : List Gd} (h : Ok l) {a b c : Nat} (h1 : vOf l b * wOf l a ≤ vOf l a * wOf l b) (h2 : vOf l c * wOf l b ≤ vOf l b * wOf l c) :
    vOf l c * wOf l a ≤ vOf l a * wOf l c ∧ (vOf l b * wOf l a < vOf l a * wOf l b ∨ vOf l c * wOf l b < vOf l b * wOf l c → vOf l c * wOf l a < vOf l a * wOf l c) := by
  have ra := wv_range h a
  have rb := wv_range h b
  have rc := wv_range h c
  generalize wOf l a = wa at *
  generalize wOf l b = wb at *
  generalize wOf l c = wc at *
  generalize vOf l a = va at *
  generalize vOf l b = vb at *
  generalize vOf l c = vc at *
  have k1 := Int.mul_le_mul_of_nonneg_right h1 (show 0 ≤ wc by omega)
  have k2 := Int.mul_le_mul_of_nonneg_right h2 (show 0 ≤ wa by omega)
  have e1 : vb * wa * wc = vb * wc * wa := by rw [Int.mul_assoc, Int.mul_assoc, Int.mul_comm wa]
  have e2 : vc * wb * wa = vc * wa * wb := by rw [Int.mul_assoc, Int.mul_assoc, Int.mul_comm wb]
  have e3 : va * wb * wc = va * wc * wb := by rw [Int.mul_assoc, Int.mul_assoc, Int.mul_comm wb]
  refine ⟨?_, fun hs => ?_⟩
  · exact Int.le_of_mul_le_mul_right (show vc * wa * wb ≤ va * wc * wb by omega) (by omega)
  · refine Int.lt_of_mul_lt_mul_right (a := wb) (show vc * wa * wb < va * wc * wb from ?_) (by omega)
    rcases hs with hs | hs
    · have := Int.mul_lt_mul_of_pos_right hs (show 0 < wc by omega); omega
    · have := Int.mul_lt_mul_of_pos_right hs (show 0 < wa by omega); omega
theorem dear_trans {l : List Gd} (h : Ok l) (a b c : Nat) (h1 : dearR l a b) (h2 : dearR l b c) : dearR l a c := by
  unfold dearR dearL at *
  have k := dear_le_trans h (a := a) (b := b) (c := c) (by omega) (by omega)
  rcases h1 with h1 | h1
  · exact .inl (k.2 (.inl h1))
  · rcases h2 with h2 | h2
    · exact .inl (k.2 (.inr h2))
    · have := k.1
      rcases Int.lt_or_le (vOf l c * wOf l a) (vOf l a * wOf l c) with c1 | c1
      · exact .inl c1
      · exact .inr ⟨by omega, by omega⟩
theorem dearR_dear {l : List Gd} {i j : Nat} (h : dearR l i j) : Dear (wOf l) (vOf l) i j := by
  unfold dearR dearL at h; unfold Dear; omega

/-- what the closure reads -/
def CloG (l : List Gd) (a : Option Addr) (cap p : Nat) (w : World) : Prop := Goods w a l ∧ w.cell? ⟨p, 0, none⟩ = some (.slice a l.length cap)
theorem closG (l : List Gd) (a : Option Addr) (cap p : Nat) (hl : Ok l) (i j : Nat) (hi : i < l.length) (hj : j < l.length) (z : Int)
    (hC : ∀ w0 : World, Calls Tryd.prog 78 #[.int .i64 (vOf l j * wOf l i), .int .i64 (vOf l i * wOf l j)] w0 fun e w' => e = .returned (.int .i64 z) ∧ w0 = w') (w : World) (h : CloG l a cap p w) :
    Calls Tryd.prog 92 #[.int .i64 i, .int .i64 j, .pointer (some ⟨p, 0, none⟩)] w fun e w' => e = .returned (.int .i64 z) ∧ ∃ m, w' = w.drewN m := by
  obtain ⟨hx, hp⟩ := h
  obtain ⟨b, off, rfl, hb, hc⟩ := hx.open (by omega)
  obtain ⟨c0, c1⟩ := hc i hi
  obtain ⟨d0, d1⟩ := hc j hj
  have hs := hl.short
  have r1 := wv_range hl i
  have r2 := wv_range hl j
  have m1 := mul_range r2.2.2.1 r2.2.2.2 (show 0 ≤ wOf l i by omega) r1.2.1
  have m2 := mul_range r1.2.2.1 r1.2.2.2 (show 0 ≤ wOf l j by omega) r2.2.1
  have e0 : (l.getD i g0).w = wOf l i := rfl
  have e1 : (l.getD i g0).v = vOf l i := rfl
  have e2 : (l.getD j g0).w = wOf l j := rfl
  have e3 : (l.getD j g0).v = vOf l j := rfl
  rw [e0] at c0
  rw [e1] at c1
  rw [e2] at d0
  rw [e3] at d1
  clear hc hx hl e0 e1 e2 e3
  generalize wOf l i = wi at *
  generalize wOf l j = wj at *
  generalize vOf l i = vi at *
  generalize vOf l j = vj at *
  have hiI : (i : Int) < l.length := by omega
  have hjI : (j : Int) < l.length := by omega
  have HC := Lib.hid hC
  clear hC
  go_enter Tryd.func92, Tryd.ntmps92
  go_wp2
  go_quiet (with_reducible exact Calls.quiet_of_same ((HC.out _).mono fun _ _ ⟨he, hw⟩ => ⟨he, hw.symm⟩))
  go_wp2
  go_ret
  exact ⟨rfl, _, rfl⟩
theorem dearCmp (l : List Gd) (a : Option Addr) (cap p : Nat) (hl : Ok l) : Cmp l.length (dearR l) (dearL l) (CloG l a cap p) p := by
  refine ⟨fun i j w hi hj h hlt => closG l a cap p hl i j hi hj (-1) (fun w0 => compare_less _ _ hlt w0) w h, fun i j hi hj hnl => ?_, fun w q h => ⟨h.1.drewN q, h.2⟩, fun i j h => .inl h, fun i j hji hnl => ?_, dear_trans hl⟩
  · have hle : vOf l i * wOf l j ≤ vOf l j * wOf l i := by unfold dearL at hnl; omega
    rcases Int.lt_or_le (vOf l i * wOf l j) (vOf l j * wOf l i) with h1 | h1
    · exact ⟨1, by decide, fun w h => closG l a cap p hl i j hi hj 1 (fun w0 => compare_more _ _ h1 w0) w h⟩
    · have e : vOf l i * wOf l j = vOf l j * wOf l i := by omega
      exact ⟨0, by decide, fun w h => closG l a cap p hl i j hi hj 0 (fun w0 => by rw [e]; exact compare_same _ w0) w h⟩
  · unfold dearL at hnl
    unfold dearR dearL
    omega

def nums (n : Nat) : List Int := asInts (List.range n)
theorem nums_length (n : Nat) : (nums n).length = n := by simp [nums, asInts]
theorem set_nums (k r : Nat) : (nums k ++ List.replicate (r + 1) 0).set k (k : Int) = nums (k + 1) ++ List.replicate r 0 := by
  have e : (nums k).length = k := nums_length k
  rw [List.replicate_succ, show nums (k + 1) = nums k ++ [(k : Int)] by simp [nums, asInts, List.range_succ]]
  rw [List.set_append_right _ _ (by omega), e, Nat.sub_self]; simp

/-- what dear tells -/
def DearRes (l : List Gd) (w : World) (e : Ending) (w' : World) : Prop :=
  ∃ ord g, e = .returned (.slice (some ⟨g, 0, none⟩) l.length l.length) ∧ w.heap.size ≤ g ∧ GSort.Falls (dearR l) l.length ord ∧ Row w' g 3 (asInts ord) ∧ Below w.heap.size w w'
theorem dear_any (l : List Gd) (a : Option Addr) (cap : Nat) (w : World) (hx : Goods w a l) (hl : Ok l) :
    Calls Tryd.prog 81 #[.slice a l.length cap] w fun e w' => DearRes l w e w' := by
  have hs := hl.short
  obtain ⟨wa, hwa⟩ : ∃ wa, wa = w.alloc (.cells #[.slice a l.length cap] 65) := ⟨_, rfl⟩
  have hb : wa.heap[w.heap.size]? = some (.cells #[.slice a l.length cap] 65 (0, 0)) := by rw [hwa]; exact heap_alloc_new w _
  have bw : Below w.heap.size w wa := by rw [hwa]; exact (Below.refl _ _).alloc (Nat.le_refl _) _
  have hwsz : wa.heap.size = w.heap.size + 1 := by rw [hwa]; simp
  have c0 : wa.cell? ⟨w.heap.size, 0, none⟩ = some (.slice a l.length cap) := by simp [World.cell?, hb]
  have hmk := fun w => run_make_row' (P := Tryd.prog) 22 3 (.int .i64 0) 8 Tryd.underlying22 (by kernel_rfl) rfl .i64 .i64 l.length (by omega) (by omega) w
  have Hwa := Lib.hid hwa
  have Hwsz := Lib.hid hwsz
  have Hc0 := Lib.hid c0
  clear hwa hb hwsz c0
  go_enter Tryd.func81, Tryd.ntmps81
  go_wp2
  go_loopw [10] (fun i wr => ∃ k : Nat, i = .int .i64 k ∧ k ≤ l.length ∧ Row wr (w.heap.size + 1) 3 (nums k ++ List.replicate (l.length - k) 0) ∧ Below (w.heap.size + 1) wa wr)
    (fun i _ => l.length - (intOf i).toNat)
  case atStart =>
    refine ⟨0, rfl, Nat.zero_le _, ?_, ?_⟩
    · have := Row.made wa 3 l.length
      rw [Hwsz.out, Hwa.out] at this
      simpa [nums, asInts] using this
    · have := (Below.refl (w.heap.size + 1) wa).alloc (Nat.le_of_eq Hwsz.out.symm) (.cells (madeCells #[.int .i64 0] l.length) 3)
      rw [Hwa.out] at this ⊢
      exact this
  case round =>
    obtain ⟨k, rfl, hk, hrow, hbel⟩ := hrel
    rcases Nat.lt_or_ge k l.length with hlt | hge
    · obtain ⟨r, hr⟩ : ∃ r, l.length - k = r + 1 := ⟨l.length - k - 1, by omega⟩
      rw [hr] at hrow
      have hcell := hrow.cell k (by rw [List.length_append, nums_length]; simp)
      obtain ⟨ov, hcell⟩ : ∃ ov, wr.cell? ⟨w.heap.size + 1, k, none⟩ = some ov := ⟨_, hcell⟩
      have hfr := hrow.free k
      have Hr := Lib.hid hr
      have Hrow := Lib.hid hrow
      have Hbel := Lib.hid hbel
      clear hr hrow hbel
      go_wp2
      go_roundw
      case rel =>
        refine ⟨k + 1, by go_num, by omega, ?_, Hbel.out.setCell (Nat.le_refl _) _⟩
        rw [show l.length - (k + 1) = r by have := Hr.out; omega, ← set_nums]
        exact Hrow.out.set k _
      case measure => simp only [intOf]; omega
    · have hkn : k = l.length := by omega
      have h3 : (l.length : Int) ≤ (k : Int) := by omega
      have hrow' : Row wr (w.heap.size + 1) 3 (nums l.length) := by rw [hkn] at hrow; simpa using hrow
      have hsz : w.heap.size ≤ w.heap.size + 1 := by omega
      have hclo : ∀ w', Below (w.heap.size + 1) wr w' → CloG l a cap w.heap.size w' := fun w' hb' => by
        have hb2 : Below (w.heap.size + 1) wa w' := hbel.trans hb'
        refine ⟨hx.below (bw.trans (hb2.mono hsz)), ?_⟩
        rw [hb2.cell (p := ⟨w.heap.size, 0, none⟩) (Nat.lt_succ_self _)]; exact Hc0.out
      have hc0 : wr.cell? ⟨w.heap.size, 0, none⟩ = some (.slice a l.length cap) := (hclo wr (Below.refl _ _)).2
      have S := sortStable_any l.length (dearR l) (dearL l) (CloG l a cap w.heap.size) w.heap.size (w.heap.size + 1) wr (dearCmp l a cap w.heap.size hl) hs hclo hrow'
      have Hb := Lib.hid (bw.trans (hbel.mono hsz))
      clear hkn hrow hrow' hclo hbel
      go_wp2_with fail
      refine S.mono ?_
      clear S
      rintro e w2 ⟨ord, rfl, hF, h4, h5⟩
      have HF := Lib.hid hF
      clear hF
      go_wp2
      go_ret
      exact ⟨ord, w.heap.size + 1, rfl, hsz, HF.out, h4, Hb.out.trans (h5.mono hsz)⟩
end Go.Proofs.YtomgcfjdmoefgaaDoor
