/- WALK: order.Sort. -/
import Derived.Test.YtalnepcbaegaeaaDoorSymClone
namespace Go.Proofs.YtalnepcbaegaeaaDoor
open Go Go.RowKit SimPlain HeapPlain SymPlain

theorem Sort_bad (l : List Ev) (a : Option Addr) (cap : Nat) (w : World) (hx : EvA w a l) (hl : l.length ≤ 9223372036854775807) (hbad : chkI l ≠ 0) :
    Calls Tryd.prog 16 #[.slice a l.length cap] w fun e w' => e = .returned (.tuple #[.slice none 0 0, errV 64 (chkI l)]) ∧ Below w.heap.size w w' := by
  have hC := CheckI_any l a cap w hx hl
  rw [errV_bad hbad] at hC ⊢
  have HC := Lib.hid hC
  obtain ⟨N, hN⟩ : ∃ N, N = l.length := ⟨_, rfl⟩
  rw [← hN] at HC ⊢
  clear hC hx hl hbad hN
  go_enter Tryd.func16, Tryd.ntmps16
  go_wp2_with fail
  refine HC.out.mono ?_
  rintro e w1 ⟨rfl, hb⟩
  have HB := Lib.hid hb
  clear hb
  go_wp2
  refine bodyPost_ret (results_tmp2 rfl _ _ _) rfl ?_
  exact ⟨rfl, HB.out⟩
set_option maxRecDepth 100000 in
theorem Sort_ok (l : List Ev) (a : Option Addr) (cap : Nat) (w : World) (hx : EvA w a l) (hok : chkI l = 0) (h0 : 0 < l.length) (hbef : l.Pairwise Bef) :
    Calls Tryd.prog 16 #[.slice a l.length cap] w fun e w' => ∃ g c W, e = .returned (.tuple #[.slice (some ⟨g, 0, none⟩) W.length c, .nilIface]) ∧ W.Perm l ∧ W.Pairwise Lt ∧ EtOwn w' w.heap.size (some ⟨g, 0, none⟩) c W ∧ Below w.heap.size w w' := by
  have h60 := (chkI_fine hok).1
  have hC := CheckI_any l a cap w hx (by omega)
  rw [hok, errV_ok] at hC
  have HC := Lib.hid hC
  obtain ⟨b, off, rfl, hbl, hc⟩ := hx.open h0
  obtain ⟨N, hN⟩ : ∃ N, N = l.length := ⟨_, rfl⟩
  have hCl : ∀ w1, Below w.heap.size w w1 → Calls Tryd.prog 34 #[.slice (some ⟨b, off, none⟩) N cap] w1
      fun e w' => ∃ g c, e = .returned (.slice (some ⟨g, 0, none⟩) N c) ∧ EtOwn w' w1.heap.size (some ⟨g, 0, none⟩) c l ∧ Below w1.heap.size w1 w' := fun w1 hb1 =>
    clone_any l b off cap N w1 hN (by omega) (by omega) (Nat.lt_of_lt_of_le hbl hb1.size) fun i hi =>
      ⟨(hb1.cell (p := ⟨b, off + i * 2, none⟩) hbl).trans (hc i hi).1, (hb1.cell (p := ⟨b, off + i * 2 + 1, none⟩) hbl).trans (hc i hi).2⟩
  have HCl := Lib.hid hCl
  have hSo := fun (g c B : Nat) (w2 : World) (hr : EtOwn w2 B (some ⟨g, 0, none⟩) c l) => sortStable_any l hbef N hN (by omega) (by omega) g c B w2 hr
  unfold fvK at hSo
  have HSo := Lib.hid hSo
  have HN := Lib.hid hN
  rw [← hN] at HC ⊢
  clear hC hCl hSo hc hx hok h0 hbef hN h60 hbl
  go_enter Tryd.func16, Tryd.ntmps16
  go_wp2_with fail
  refine HC.out.mono ?_
  rintro e w1 ⟨rfl, hb1⟩
  have HB1 := Lib.hid hb1
  clear hb1
  go_wp2_with fail
  refine (HCl.out w1 HB1.out).mono ?_
  rintro e w2 ⟨g, c, rfl, hE, hb2⟩
  have HE := Lib.hid hE
  have HB2 := Lib.hid hb2
  clear hE hb2
  go_wp2_with fail
  refine (HSo.out g c w1.heap.size w2 HE.out).mono ?_
  rintro e w3 ⟨W, rfl, hp, hs, hr, ho⟩
  have hW : W.length = N := by rw [hp.length_eq]; exact HN.out.symm
  have hgl := (HE.out.lt g rfl).1
  have h2 := HB1.out.size
  have hfin : Hid (∃ g' c' W', (Value.tuple #[.slice (some ⟨g, 0, none⟩) N c, .nilIface]) = .tuple #[.slice (some ⟨g', 0, none⟩) W'.length c', .nilIface] ∧ W'.Perm l ∧ W'.Pairwise Lt ∧ EtOwn w3 w.heap.size (some ⟨g', 0, none⟩) c' W' ∧ Below w.heap.size w w3) := Lib.hid
    ⟨g, c, W, by rw [hW], hp, hs, hr.mono h2, (HB1.out.trans (HB2.out.mono h2)).trans (ho.below (by have := HB2.out.size; omega) (fun k e => by omega))⟩
  clear hp hs hr ho hW hgl h2
  go_wp2
  refine bodyPost_ret (results_tmp2 rfl _ _ _) rfl ?_
  obtain ⟨g', c', W', e1, r⟩ := hfin.out
  exact ⟨g', c', W', by rw [← e1]; rfl, r⟩
end Go.Proofs.YtalnepcbaegaeaaDoor
