/- WALK: book.number: a decimal number, as it is written. -/
import Derived.Test.YtalnepcbaegaeaaDoorBkShelf2
import Derived.Test.YtalnepcbaegaeaaDoorBkWrite
import Derived.Test.YtalnepcbaegaeaaDoorNumPlain
import Derived.WalkSmall
set_option linter.unusedVariables false
set_option linter.unusedSimpArgs false
namespace Go.Proofs.YtalnepcbaegaeaaDoor
open Go Go.RowKit NumPlain

def MaxL (w : World) : Prop := ∃ m, w.cell? ⟨si_laysM146_ren.g 1, 0, none⟩ = some (.int .i64 m)
/-- what the library reads -/
structure Env (w : World) : Prop where
  tab : Tab w
  max : MaxL w
  syn : ∃ tp p, w.var? Tryd.prog "strconv.ErrSyntax" = some #[.iface tp p]
  rng : ∃ tp p, w.var? Tryd.prog "strconv.ErrRange" = some #[.iface tp p]
  big : 9 ≤ w.heap.size
theorem Env.to {w w' : World} (h : Env w) (hb : Below w.heap.size w w') : Env w' := by
  have hbig := h.big
  refine ⟨h.tab.to hb, ?_, ?_, ?_, Nat.le_trans h.big hb.size⟩
  · obtain ⟨m, hm⟩ := h.max
    exact ⟨m, (hb.cell (p := ⟨si_laysM146_ren.g 1, 0, none⟩) (World.block_lt_of_cell? w _ hm)).trans hm⟩
  · obtain ⟨tp, p, h1⟩ := h.syn
    exact ⟨tp, p, var?_below hb (g := 3) (by kernel_rfl) (by omega) h1⟩
  · obtain ⟨tp, p, h1⟩ := h.rng
    exact ⟨tp, p, var?_below hb (g := 4) (by kernel_rfl) (by omega) h1⟩
theorem toList_dt (s : ByteArray) : s.toList = s.data.toList := by
  obtain ⟨⟨l⟩⟩ := s
  simp
def NumRes (s : List UInt8) (w : World) (e : Ending) (w' : World) : Prop :=
  ∃ v b, e = .returned (.tuple #[.int .i64 v, .bool b]) ∧ (b = true → numP s = some v) ∧ (b = false → numP s = none) ∧ Below w.heap.size w w'
set_option maxRecDepth 100000 in
set_option maxHeartbeats 2000000 in
theorem number_any (s : ByteArray) (hs : s.size ≤ 281474976710656) (w : World) (h : Env w) : Calls Tryd.prog 53 #[.string s] w fun e w' => NumRes s.data.toList w e w' := by
  cases ha : Lib.atoiAll s.data.toList with
  | ok v =>
    obtain ⟨v0, v1⟩ := Lib.atoiAll_bounds ha
    have hA := si_strconv_Atoi_ok s (by omega) v ha w
    have HI : Hid (∀ W, Below w.heap.size w W → Calls Tryd.prog 31 #[.int .i64 v] W fun e w' => e = .returned (.string ⟨(Lib.itoa v).toArray⟩) ∧ Below w.heap.size w w') := Lib.hid fun W hb =>
      (Itoa_any v v0 v1 W (h.tab.to hb)).mono fun e w' ⟨he, hb'⟩ => ⟨he, hb.trans (hb'.mono hb.size)⟩
    obtain ⟨Y, hY⟩ : ∃ Y : ByteArray, Y = ⟨(Lib.itoa v).toArray⟩ := ⟨_, rfl⟩
    rw [← hY] at HI
    have hres : ∀ w', Below w.heap.size w w' → NumRes s.data.toList w (.returned (.tuple #[.int .i64 v, .bool (Y.toList == s.toList)])) w' := fun w' hb => by
      refine ⟨v, _, rfl, fun e => ?_, fun e => ?_, hb⟩
      · have e' : Y.toList = s.toList := eq_of_beq e
        rw [toList_dt, toList_dt] at e'
        unfold numP
        rw [ha]
        simp only
        rw [if_pos]
        rw [← e', hY]
      · unfold numP
        rw [ha]
        simp only
        rw [if_neg]
        intro e2
        have e3 : Y.toList = s.toList := by rw [toList_dt, toList_dt, hY]; exact e2
        rw [e3] at e
        simp at e
    have HA := Lib.hid hA
    have HRes := Lib.hid hres
    clear hA hres h ha hY
    go_enter Tryd.func53, Tryd.ntmps53
    go_wp2_with fail
    refine HA.out.mono ?_
    rintro e w1 ⟨rfl, hw⟩
    have hb : Below w.heap.size w w1 := by
      rcases hw with rfl | ⟨t, rfl⟩
      · exact Below.refl _ _
      · exact Lib.bytesWorld_below _ _ _
    have HB := Lib.hid hb
    clear hw hb
    go_wp2_with fail
    refine (HI.out w1 HB.out).mono ?_
    rintro e w2 ⟨rfl, hb2⟩
    have HB2 := Lib.hid hb2
    clear hb2
    go_wp2
    go_ret2
    exact HRes.out _ (HB2.out)
  | range =>
    obtain ⟨tp, p, hv⟩ := h.rng
    have HA := Lib.hid (si_strconv_Atoi_range_var s hs ha tp p w hv)
    have HN : Hid (numP s.data.toList = none) := Lib.hid (by unfold numP; rw [ha])
    obtain ⟨k, hk⟩ : ∃ k, k = Lib.atoiSat s.data.toList := ⟨_, rfl⟩
    rw [← hk] at HA
    clear h ha hv hk
    go_enter Tryd.func53, Tryd.ntmps53
    go_wp2_with fail
    refine HA.out.mono ?_
    rintro e w1 ⟨N, rfl, -, -, hb⟩
    have HB := Lib.hid hb
    clear hb
    go_wp2
    go_ret2
    exact ⟨_, _, rfl, (by intro c; cases c), fun _ => HN.out, HB.out⟩
  | _ =>
    obtain ⟨tp, p, hv⟩ := h.syn
    have HA := Lib.hid (si_strconv_Atoi_syntax_var s hs ha tp p w hv)
    have HN : Hid (numP s.data.toList = none) := Lib.hid (by unfold numP; rw [ha])
    clear h ha hv
    go_enter Tryd.func53, Tryd.ntmps53
    go_wp2_with fail
    refine HA.out.mono ?_
    rintro e w1 ⟨N, rfl, -, -, hb⟩
    have HB := Lib.hid hb
    clear hb
    go_wp2
    go_ret2
    exact ⟨_, _, rfl, (by intro c; cases c), fun _ => HN.out, HB.out⟩
end Go.Proofs.YtalnepcbaegaeaaDoor
