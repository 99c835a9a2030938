/- WALKS: the document's write, Push. -/
import Derived.Test.YtfejlkgddnamoaaGreatDoorBkOne
import Derived.Test.YtfejlkgddnamoaaGreatDoorBkNext
import Derived.Deep.RegionWith
set_option linter.unusedVariables false
set_option linter.unusedSimpArgs false
namespace Go.Proofs.YtfejlkgddnamoaaGreatDoor
open Go Go.RowKit SimPlain HeapPlain BookPlain

theorem results_one_cell {P : Program} {fn : Func} {p : Tmp} {ty : TypeId} (h : fn.results = #[.cell p ty]) (tmps : Array Value) (w : World) (g : Nat) (t : TypeId) (cs : Array Value) (fr : Nat × Nat) (d : TypeDesc)
    (hp : tmps.getD p undef = .pointer (some ⟨g, 0, none⟩)) (hg : w.heap[g]? = some (.cells cs t fr))
    (hu : P.underlying ty = some d) (hd : (match d with | .struct _ | .array _ _ => true | _ => false) = true) (hi : (P.info? ty).map (·.size) = some cs.size) :
    (results fn tmps).run P w = .ok (.agg cs) w := results_cell_row h tmps w g t cs fr d hp hg hu hd hi
set_option maxRecDepth 100000 in
set_option maxHeartbeats 2000000 in
theorem rwrite_any (a : Option Addr) (n c : Nat) (T : List UInt8) (s : ByteArray) (w : World) (hT : T.length ≤ 200000000) (hs : s.size ≤ 100000) :
    Calls Tryz.prog 83 #[.agg #[.slice a n c, .string ⟨T.toArray⟩], .string s] w fun e w' => e = .returned (.agg #[.slice a n c, .string ⟨(T ++ lineB s.data.toList).toArray⟩]) ∧ Below w.heap.size w w' := by
  have HS := Lib.hid (fun W => rsum_any s W (by omega))
  have hn := sumAt_lt s.data.toList s.data.toList.length
  have HD := Lib.hid (fun W => rdigits_any (sumB s.data.toList : Nat) (by omega) (by unfold sumB; omega) W)
  obtain ⟨N, hN⟩ : ∃ N, N = Lib.itoa (sumB s.data.toList : Nat) := ⟨_, rfl⟩
  have hNl : N.length ≤ 21 := by rw [hN]; exact itoa_len _ (by omega) (by unfold sumB; omega)
  rw [← hN] at HD
  obtain ⟨Y, hY⟩ : ∃ Y : ByteArray, Y = ⟨T.toArray⟩ := ⟨_, rfl⟩
  have hYd : Y.data.toList = T := by rw [hY]
  have hYs : Y.size = T.length := by rw [hY]; exact mk_size T
  obtain ⟨X1, e1, z1⟩ := mk_list (Y.data.toList ++ s.data.toList)
  obtain ⟨X2, e2, z2⟩ := mk_list (X1.data.toList ++ [32])
  obtain ⟨X3, e3, z3⟩ := mk_list (X2.data.toList ++ N)
  have hsl : s.data.toList.length = s.size := (Lib.size_eq s).symm
  have hx1 : X1.data.toList.length = X1.size := (Lib.size_eq X1).symm
  have hx2 : X2.data.toList.length = X2.size := (Lib.size_eq X2).symm
  have s1 : X1.size = T.length + s.size := by rw [z1, List.length_append, hsl, hYd]
  have s2 : X2.size = X1.size + 1 := by rw [z2, List.length_append, hx1]; rfl
  have s3 : X3.size = X2.size + N.length := by rw [z3, List.length_append, hx2]
  obtain ⟨X4, hX4⟩ : ∃ X : ByteArray, X = ⟨(T ++ lineB s.data.toList).toArray⟩ := ⟨_, rfl⟩
  have r1 := cat_run (P := Tryz.prog) Y s X1 (by rw [e1]) (by omega)
  have r2 := cat_run (P := Tryz.prog) X1 ⟨#[32]⟩ X2 (by rw [e2]) (by show _ + 1 ≤ _; omega)
  have r3 := cat_run (P := Tryz.prog) X2 ⟨N.toArray⟩ X3 (by rw [e3]) (by rw [mk_size N]; omega)
  have r4 := cat_run (P := Tryz.prog) X3 ⟨#[10]⟩ X4 (by rw [hX4, e3, e2, e1, hYd]; unfold lineB; rw [hN]; simp) (by show _ + 1 ≤ _; omega)
  rw [← hX4, ← hY]
  clear e1 e2 e3 z1 z2 z3 hsl hx1 hx2 s1 s2 s3 hN hX4 hY hYd hYs
  go_enter Tryz.func83, Tryz.ntmps83
  go_upto_region 1 with fail
  obtain ⟨W, hW⟩ : ∃ W, W = (w.alloc (.cells #[.slice a n c, .string Y] 78)).alloc (.cells #[.slice none 0 0, .string ⟨#[]⟩] 78) := ⟨_, rfl⟩
  have hsz : (w.alloc (.cells #[.slice a n c, .string Y] 78)).heap.size = w.heap.size + 1 := by simp
  have hbb : W.heap[w.heap.size]? = some (.cells #[.slice a n c, .string Y] 78 (0, 0)) := by rw [hW, Below.heap_alloc _ _ _ (by rw [hsz]; omega)]; exact heap_alloc_new _ _
  have hbr : W.heap[w.heap.size + 1]? = some (.cells #[.slice none 0 0, .string ⟨#[]⟩] 78 (0, 0)) := by rw [hW, ← hsz]; exact heap_alloc_new _ _
  have hbl : Below w.heap.size w W := by rw [hW]; exact ((Below.refl _ _).alloc (Nat.le_refl _) _).alloc (by rw [hsz]; omega) _
  try rw [← hW]
  clear hW hsz
  have b0 : W.cell? ⟨w.heap.size, 0, none⟩ = some (.slice a n c) := by simp [World.cell?, hbb]
  have b1 : W.cell? ⟨w.heap.size, 1, none⟩ = some (.string Y) := by simp [World.cell?, hbb]
  have bf : W.frozen? ⟨w.heap.size, 1, none⟩ = false := by simp [World.frozen?, hbb]
  have f0 : W.frozen? ⟨w.heap.size + 1, 0, none⟩ = false := by simp [World.frozen?, hbr]
  have f1 : W.frozen? ⟨w.heap.size + 1, 1, none⟩ = false := by simp [World.frozen?, hbr]
  have q0 : W.cell? ⟨w.heap.size + 1, 0, none⟩ = some (.slice none 0 0) := by simp [World.cell?, hbr]
  have q1 : W.cell? ⟨w.heap.size + 1, 1, none⟩ = some (.string ⟨#[]⟩) := by simp [World.cell?, hbr]
  have Hbr := Lib.hid hbr
  have Hbl := Lib.hid hbl
  clear hbb hbr hbl
  go_region_with (first
    | (go_at_call 102; refine (HS.out _).mono ?_; rintro e w1 ⟨rfl, rfl⟩)
    | (go_at_call 57; refine (HD.out _).mono ?_; rintro e w1 ⟨rfl, rfl⟩))
  all_goals
    go_wp2
    (try simp only [Exit.inBlock, Exit.then])
    refine bodyPost_ret (results_one_cell rfl _ _ (w.heap.size + 1) _ _ _ _ rfl (heap_setCell_same _ _ _ _ _ _ (heap_setCell_same _ _ _ _ _ _ ((heap_setCell_other _ _ _ _ (by show w.heap.size + 1 ≠ w.heap.size; omega)).trans Hbr.out))) Tryz.underlying78 rfl (by kernel_rfl)) rfl ?_
    exact ⟨rfl, drewN_below (((Hbl.out.setCell (p := ⟨w.heap.size, 1, none⟩) (Nat.le_refl _) _).setCell (p := ⟨w.heap.size + 1, 0, none⟩) (Nat.le_succ _) _).setCell (p := ⟨w.heap.size + 1, 1, none⟩) (Nat.le_succ _) _) 1⟩
end Go.Proofs.YtfejlkgddnamoaaGreatDoor
