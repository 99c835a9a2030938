/- WALKS: script.goes, script.met. -/
import Derived.Test.YtmlnegcffeghcaaDoorPageSorted
namespace Go.Proofs.YtmlnegcffeghcaaDoor
open Go Go.RowKit PagePlain Go.Maps

/-! ### plain -/
def toldK (picks : List Int) (t n : Nat) : Nat := if t < picks.length ∧ 0 < picks.getD t 0 then (picks.getD t 0 % n).toNat else 0
theorem toldK_lt (picks : List Int) (t : Nat) {n : Nat} (h : 0 < n) : toldK picks t n < n := by
  unfold toldK
  split
  · have h1 := Int.emod_nonneg (picks.getD t 0) (show (n : Int) ≠ 0 by omega)
    have h2 := Int.emod_lt_of_pos (picks.getD t 0) (show (0 : Int) < n by omega)
    omega
  · exact h
theorem srt_length (zs : List Int) : (srt zs).length = zs.length := by unfold srt; simp
theorem srt_mem (zs : List Int) (x : Int) : x ∈ srt zs ↔ x ∈ zs := by unfold srt; simp
def whom (picks : List Int) (t : Nat) (h : List Int) : Nat := h.idxOf ((srt h).getD (toldK picks t h.length) 0)
theorem whom_in (picks : List Int) (t : Nat) {h : List Int} (h0 : 0 < h.length) : (srt h).getD (toldK picks t h.length) 0 ∈ h := by
  rw [← srt_mem]
  exact PagePlain.getD_in (by rw [srt_length]; exact toldK_lt picks t h0)
theorem whom_lt (picks : List Int) (t : Nat) {h : List Int} (h0 : 0 < h.length) : whom picks t h < h.length := List.idxOf_lt_length_of_mem (whom_in picks t h0)
def KTold (picks : List Int) : Kind := ⟨fun t h _ => whom picks t h, false⟩
theorem told_run {f : Nat} {l picks : List Int} (hf : 0 < f) : Run f l (fun _ _ _ => True) (hnd f l (KTold picks)) := by
  refine hnd_run fun t ht hlen hm => ?_
  have h1 := whom_lt picks t (h := hnd f l (KTold picks) t) (by omega)
  refine ⟨by rw [hlen] at h1; exact h1, trivial⟩

/-! ### walks -/
theorem alloc_size1 (w : World) (o : Obj) : (w.alloc o).heap.size = w.heap.size + 1 := by simp
theorem script_met (v : Value) (p t : Int) (b : Bool) (w : World) :
    Calls Tryd.prog 54 #[.agg #[v], .int .i64 p, .int .i64 t, .bool b] w fun e w' => e = .returned (.tuple #[]) ∧ Below w.heap.size w w' := by
  have hb0 : Below w.heap.size w (w.alloc (.cells #[v] 50)) := (Below.refl _ _).alloc (Nat.le_refl _) _
  have Hb0 := Lib.hid hb0
  clear hb0
  go_enter Tryd.func54, Tryd.ntmps54
  go_wp2
  go_end0
  exact ⟨rfl, Hb0.out⟩

theorem sel_any (xs : List Int) (a : Option Addr) (cap : Nat) (w : World) (hx : Ints w a xs) (hl : xs.length ≤ 8) (h0 : 0 < xs.length) :
    Calls Tryd.prog 55 #[.func (.func 59) #[] #[.pointer (some ⟨w.heap.size, 0, none⟩)]] (w.alloc (.cells #[.slice a xs.length cap] 22)) fun e w' => ∃ g cap', e = .returned (.slice (some ⟨g, 0, none⟩) xs.length cap') ∧ (∀ j, j < xs.length → w'.cell? ⟨g, j, none⟩ = some (.int .i64 ((srt xs).getD j 0))) ∧ Below w.heap.size w w' := by
  obtain ⟨b, o, rfl, hc⟩ := hx.open h0
  have hb := World.block_lt_of_cell? w _ (hc 0 h0)
  have hb : b < w.heap.size := hb
  have hb0 : Below w.heap.size w (w.alloc (.cells #[.slice (some ⟨b, o, none⟩) xs.length cap] 22)) := (Below.refl _ _).alloc (Nat.le_refl _) _
  refine (sorted_any w.heap.size b o cap xs h0 (by omega) _ (by simp) (by simp; omega) (box_cell w _ _) (fun j hj => (hb0.cell (p := ⟨b, o + j, none⟩) hb).trans (hc j hj))).mono ?_
  rintro e w' ⟨g, cap', rfl, hrow, hbl⟩
  refine ⟨g, cap', rfl, fun j hj => ?_, hb0.trans (hbl.mono (by simp))⟩
  have hl2 := srt_length xs
  have O : Own w' (w.alloc (.cells #[.slice (some ⟨b, o, none⟩) xs.length cap] 22)).heap.size 3 (some ⟨g, 0, none⟩) cap' (srt xs) := by
    unfold Own; rw [hl2]; exact hrow
  obtain ⟨g', e1, _, _, hcc, _⟩ := O.open (by omega)
  simp only [Option.some.injEq, Addr.mk.injEq, and_true] at e1
  subst e1
  exact hcc j (by omega)

set_option maxHeartbeats 2000000 in
theorem script_goes (picks xs : List Int) (t : Nat) (ap a : Option Addr) (capp cap : Nat) (w : World) (hp : Ints w ap picks) (hlp : picks.length ≤ 9223372036854775807) (hwf : ∀ n ∈ picks, -9223372036854775808 ≤ n ∧ n ≤ 9223372036854775807) (ht : t ≤ 1000) (hx : Ints w a xs) (hl : xs.length ≤ 8) (h0 : 0 < xs.length) :
    Calls Tryd.prog 53 #[.agg #[.slice ap picks.length capp], .slice a xs.length cap, .int .i64 t] w fun e w' => e = .returned (.int .i64 (whom picks t xs : Nat)) ∧ Below w.heap.size w w' := by
  have hb0 : Below w.heap.size w (w.alloc (.cells #[.slice ap picks.length capp] 50)) := (Below.refl _ _).alloc (Nat.le_refl _) _
  have hbox := box_cell w (.slice ap picks.length capp) 50
  have hx1 := hx.below hb0
  have hp1 := hp.below hb0
  have hw : whom picks t xs = xs.idxOf ((srt xs).getD (toldK picks t xs.length) 0) := rfl
  have hin := whom_in picks t h0
  have hkl := toldK_lt picks t h0
  have HSel := Lib.hid (fun W hW => sel_any xs a cap W hW hl h0)
  have HX1 := Lib.hid hx1
  have Hb0 := Lib.hid hb0
  have HW := Lib.hid hw
  have HIn := Lib.hid hin
  -- behind the choice of the number
  have fin : Hid (∀ W, Below w.heap.size w W → Ints W a xs → ∀ (k : Nat), k = toldK picks t xs.length → k < xs.length →
      Calls Tryd.prog 55 #[.func (.func 59) #[] #[.pointer (some ⟨W.heap.size, 0, none⟩)]] (W.alloc (.cells #[.slice a xs.length cap] 22)) fun e w' => ∃ g cap', e = .returned (.slice (some ⟨g, 0, none⟩) xs.length cap') ∧ w'.cell? ⟨g, k, none⟩ = some (.int .i64 ((srt xs).getD k 0)) ∧ Below w.heap.size w w' ∧ Ints w' a xs ∧
        Calls Tryd.prog 26 #[.slice a xs.length cap, .int .i64 ((srt xs).getD k 0)] w' fun e w'' => e = .returned (.int .i64 (whom picks t xs : Nat)) ∧ w' = w'') := by
    refine Lib.hid fun W hbW hxW k hk hkx => (HSel.out W hxW).mono ?_
    rintro e w' ⟨g, cap', rfl, hcc, hbl⟩
    have hxw' := hxW.below hbl
    refine ⟨g, cap', rfl, hcc k hkx, hbW.trans (hbl.mono hbW.size), hxw', ?_⟩
    refine (index_any xs ((srt xs).getD k 0) a cap w' hxw' (by omega)).mono ?_
    rintro e w'' ⟨rfl, h⟩
    refine ⟨?_, h⟩
    rw [HW.out, ← hk]
    unfold idxI
    rw [if_pos (by rw [hk]; exact HIn.out)]
  clear hx hp hx1 hb0 hw hin
  by_cases h1 : t < picks.length
  · obtain ⟨bp, op, rfl, hcp⟩ := hp1.open (by omega)
    have c1 := hcp t h1
    have hv := hwf _ (PagePlain.getD_in h1)
    have h1I : (t : Int) < picks.length := by omega
    have hk : toldK picks t xs.length = if 0 < picks.getD t 0 then (picks.getD t 0 % xs.length).toNat else 0 := by
      unfold toldK
      by_cases c : 0 < picks.getD t 0
      · rw [if_pos ⟨h1, c⟩, if_pos c]
      · rw [if_neg (fun d => c d.2), if_neg c]
    clear hcp
    generalize picks.getD t 0 = v at *
    generalize toldK picks t xs.length = k at *
    have HK := Lib.hid hk
    clear hk
    rcases Int.lt_or_le 0 v with hpos | hpos
    · have hkv : (k : Int) = v % xs.length := by
        have h := HK.out
        rw [if_pos hpos] at h
        have := Int.emod_nonneg v (show (xs.length : Int) ≠ 0 by omega)
        omega
      have hmod : Int.tmod v (xs.length : Int) = (k : Int) := by rw [Int.tmod_eq_emod_of_nonneg (by omega)]; exact hkv.symm
      have hne : ¬ ((xs.length : Int) = 0) := by omega
      have hne2 : ((xs.length : Int) == 0) = false := by rw [beq_eq_false_iff_ne]; exact hne
      have hF := fin.out _ Hb0.out HX1.out k rfl hkl
      rw [alloc_size1] at hF
      have HF := Lib.hid hF
      clear hF
      clear fin HK hkv
      go_enter Tryd.func53, Tryd.ntmps53
      go_wp2_with fail
      refine (values_any _ _ _ _).mono ?_
      rintro e W ⟨rfl, rfl⟩
      go_wp2_with fail
      refine HF.out.mono ?_
      rintro e w2 ⟨g, cap2, rfl, hc2, hb2, hx2, hidx⟩
      have HI := Lib.hid hidx
      have HB2 := Lib.hid hb2
      clear hidx hb2 hx2
      have hkI : (k : Int) < xs.length := by omega
      generalize (srt xs).getD k 0 = u at *
      go_wp2_with fail
      refine HI.out.mono ?_
      rintro e w3 ⟨rfl, rfl⟩
      go_wp2
      go_ret
      exact ⟨rfl, HB2.out⟩
    · have hk0 : k = 0 := by have h := HK.out; rw [if_neg (by omega)] at h; exact h
      subst hk0
      have hF := fin.out _ Hb0.out HX1.out 0 rfl hkl
      rw [alloc_size1] at hF
      have HF := Lib.hid hF
      clear hF
      clear fin HK
      go_enter Tryd.func53, Tryd.ntmps53
      go_wp2_with fail
      refine (values_any _ _ _ _).mono ?_
      rintro e W ⟨rfl, rfl⟩
      go_wp2_with fail
      refine HF.out.mono ?_
      rintro e w2 ⟨g, cap2, rfl, hc2, hb2, hx2, hidx⟩
      have HI := Lib.hid hidx
      have HB2 := Lib.hid hb2
      clear hidx hb2 hx2
      have hkI : (0 : Int) < xs.length := by omega
      generalize (srt xs).getD 0 0 = u at *
      go_wp2_with fail
      refine HI.out.mono ?_
      rintro e w3 ⟨rfl, rfl⟩
      go_wp2
      go_ret
      exact ⟨rfl, HB2.out⟩
  · have h1I : (picks.length : Int) ≤ t := by omega
    have hk0 : toldK picks t xs.length = 0 := by unfold toldK; rw [if_neg (fun d => h1 d.1)]
    rw [hk0] at hkl
    have hF := fin.out _ Hb0.out HX1.out 0 hk0.symm hkl
    rw [alloc_size1] at hF
    have HF := Lib.hid hF
    clear hF
    clear fin hk0 h1
    go_enter Tryd.func53, Tryd.ntmps53
    go_wp2_with fail
    refine (values_any _ _ _ _).mono ?_
    rintro e W ⟨rfl, rfl⟩
    go_wp2_with fail
    refine HF.out.mono ?_
    rintro e w2 ⟨g, cap2, rfl, hc2, hb2, hx2, hidx⟩
    have HI := Lib.hid hidx
    have HB2 := Lib.hid hb2
    clear hidx hb2 hx2
    have hkI : (0 : Int) < xs.length := by omega
    generalize (srt xs).getD 0 0 = u at *
    go_wp2_with fail
    refine HI.out.mono ?_
    rintro e w3 ⟨rfl, rfl⟩
    go_wp2
    go_ret
    exact ⟨rfl, HB2.out⟩
end Go.Proofs.YtmlnegcffeghcaaDoor
