/- WALK: order.Sort of nothing. -/
import Derived.Test.YtalnepcbaegaeaaDoorSymOrder
namespace Go.Proofs.YtalnepcbaegaeaaDoor
open Go Go.RowKit SimPlain HeapPlain SymPlain

theorem eql_nil_nil (w : World) : (binOp .eql 22 (.slice none 0 0) (.slice none 0 0)).run Tryd.prog w = .ok (.bool true) w := by
  simp only [binOp]
  simp [run_equal_slice_nil w 22 28 none 0 0 Tryd.underlying22]
theorem clone_nil (w : World) : Calls Tryd.prog 34 #[.slice none 0 0] w fun e w' => e = .returned (.slice none 0 0) ∧ w = w' := by
  have heq := eql_nil_nil w
  go_enter Tryd.func34, Tryd.ntmps34
  go_wp2
  go_ret
  exact ⟨rfl, rfl⟩
theorem clone_zero (ad : Addr) (cap : Nat) (w : World) : Calls Tryd.prog 34 #[.slice (some ad) 0 cap] w fun e w' => (∃ a c, e = .returned (.slice a 0 c)) ∧ Below w.heap.size w w' := by
  have heq := eql_slice_nil w ad 0 cap
  obtain ⟨i0, hi0, hz0, hz1, hz2⟩ := info_parts etInfo
  have hW1 : Below w.heap.size w (w.alloc (.cells #[] 28)) := (Below.refl _ _).alloc (Nat.le_refl _) _
  have HW1 := Lib.hid hW1
  have hown0 : (w.alloc (.cells #[] 28)).ownsRow w.heap.size 28 2 (.slice (some ⟨w.heap.size, 0, none⟩) 0 0) 0 [] :=
    ⟨rfl, .inr ⟨w.heap.size, 0, #[], rfl, Nat.le_refl _, heap_alloc_new _ _, Nat.le_refl _, by unfold maxLen; omega, rfl, rfl⟩⟩
  have HOwn := Lib.hid hown0
  have HLe := Lib.hid hW1.size
  clear hW1 hown0
  go_enter Tryd.func34, Tryd.ntmps34
  go_wp2_with (at_builtin; refine wpList_append_own _ rfl (.tmp 5) (.tmp 6) 22 rfl w.heap.size 28 i0 (.agg #[.int .i64 0, .int .i64 0]) 2 16 Tryd.underlying22 hi0 hz0 hz1 hz2 rfl (by decide) (.slice (some ⟨w.heap.size, 0, none⟩) 0 0) 0 [] rfl HOwn.out ad 0 cap [] rfl rfl (fun j u h => by simp at h) (by simp) (by unfold maxLen; omega) (by omega) HLe.out ?_; intro v2 w2 o2 g2 _; have HO := Lib.hid o2; have HG := Lib.hid g2; clear o2 g2)
  go_ret
  obtain ⟨a, c, e1, _⟩ := EtOwn.of (l := []) HO.out
  exact ⟨⟨a, c, by rw [e1]; rfl⟩, HW1.out.trans (grown_below HG.out HLe.out (fun k hk => by simp [Value.ownBlock] at hk; omega))⟩
theorem Sort_empty (a : Option Addr) (cap : Nat) (w : World) (h : a = none → cap = 0) :
    Calls Tryd.prog 16 #[.slice a 0 cap] w fun e w' => ∃ a' c, e = .returned (.tuple #[.slice a' 0 c, .nilIface]) ∧ Below w.heap.size w w' := by
  have hC := CheckI_any [] a cap w (.inl rfl) (by simp)
  rw [show chkI [] = 0 from rfl, errV_ok] at hC
  have HC := Lib.hid hC
  have hCl : ∀ w1, Calls Tryd.prog 34 #[.slice a 0 cap] w1 fun e w' => (∃ a' c, e = .returned (.slice a' 0 c)) ∧ Below w1.heap.size w1 w' := fun w1 => by
    cases a with
    | none =>
      obtain rfl := h rfl
      refine (clone_nil w1).mono ?_
      rintro e w' ⟨rfl, rfl⟩
      exact ⟨⟨none, 0, rfl⟩, Below.refl _ _⟩
    | some ad => exact clone_zero ad cap w1
  have HCl := Lib.hid hCl
  have hSo := sortStable_none
  unfold fvK at hSo
  have HSo := Lib.hid hSo
  clear hC hCl hSo h
  go_enter Tryd.func16, Tryd.ntmps16
  go_wp2_with fail
  refine HC.out.mono ?_
  rintro e w1 ⟨rfl, hb1⟩
  have HB1 := Lib.hid hb1
  clear hb1
  go_wp2_with fail
  refine (HCl.out w1).mono ?_
  rintro e w2 ⟨⟨a', c, rfl⟩, hb2⟩
  have HB2 := Lib.hid hb2
  clear hb2
  go_wp2_with fail
  refine (HSo.out a' c w2).mono ?_
  rintro e w3 ⟨rfl, rfl⟩
  go_wp2
  refine bodyPost_ret (results_tmp2 rfl _ _ _) rfl ?_
  exact ⟨a', c, rfl, HB1.out.trans (HB2.out.mono HB1.out.size)⟩
end Go.Proofs.YtalnepcbaegaeaaDoor
