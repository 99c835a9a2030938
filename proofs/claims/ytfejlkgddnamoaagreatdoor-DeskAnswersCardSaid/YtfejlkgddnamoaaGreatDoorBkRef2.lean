/- WALKS: the document's Push. -/
import Derived.Test.YtfejlkgddnamoaaGreatDoorBkRef
import Derived.Deep.DeepCutAuto
set_option linter.unusedVariables false
set_option linter.unusedSimpArgs false
namespace Go.Proofs.YtfejlkgddnamoaaGreatDoor
open Go Go.RowKit SimPlain HeapPlain BookPlain

/-- a call's three new blocks: the book, the item, the result -/
structure PB (W : World) (b0 : Nat) (v : Value) (Y : ByteArray) (t id : Int) : Prop where
  bb : W.heap[b0]? = some (.cells #[v, .string Y] 78 (0, 0))
  bx : W.heap[b0 + 1]? = some (.cells #[.int .i64 t, .int .i64 id] 30 (0, 0))
  br : W.heap[b0 + 2]? = some (.cells #[.slice none 0 0, .string ⟨#[]⟩] 78 (0, 0))
theorem PB.b0 {W : World} {b0 : Nat} {v : Value} {Y : ByteArray} {t id : Int} (h : PB W b0 v Y t id) : W.cell? ⟨b0, 0, none⟩ = some v := by have := h.bb; simp [World.cell?, this]
theorem PB.b1 {W : World} {b0 : Nat} {v : Value} {Y : ByteArray} {t id : Int} (h : PB W b0 v Y t id) : W.cell? ⟨b0, 1, none⟩ = some (.string Y) := by have := h.bb; simp [World.cell?, this]
theorem PB.x0 {W : World} {b0 : Nat} {v : Value} {Y : ByteArray} {t id : Int} (h : PB W b0 v Y t id) : W.cell? ⟨b0 + 1, 0, none⟩ = some (.int .i64 t) := by have := h.bx; simp [World.cell?, this]
theorem PB.x1 {W : World} {b0 : Nat} {v : Value} {Y : ByteArray} {t id : Int} (h : PB W b0 v Y t id) : W.cell? ⟨b0 + 1, 1, none⟩ = some (.int .i64 id) := by have := h.bx; simp [World.cell?, this]
theorem PB.r0 {W : World} {b0 : Nat} {v : Value} {Y : ByteArray} {t id : Int} (h : PB W b0 v Y t id) : W.cell? ⟨b0 + 2, 0, none⟩ = some (.slice none 0 0) := by have := h.br; simp [World.cell?, this]
theorem PB.r1 {W : World} {b0 : Nat} {v : Value} {Y : ByteArray} {t id : Int} (h : PB W b0 v Y t id) : W.cell? ⟨b0 + 2, 1, none⟩ = some (.string ⟨#[]⟩) := by have := h.br; simp [World.cell?, this]
theorem PB.fb {W : World} {b0 : Nat} {v : Value} {Y : ByteArray} {t id : Int} (h : PB W b0 v Y t id) (o : Nat) : W.frozen? ⟨b0, o, none⟩ = false := by have := h.bb; simp [World.frozen?, this]
theorem PB.fr {W : World} {b0 : Nat} {v : Value} {Y : ByteArray} {t id : Int} (h : PB W b0 v Y t id) (o : Nat) : W.frozen? ⟨b0 + 2, o, none⟩ = false := by have := h.br; simp [World.frozen?, this]
theorem PB.lt {W : World} {b0 : Nat} {v : Value} {Y : ByteArray} {t id : Int} (h : PB W b0 v Y t id) : b0 + 2 < W.heap.size := lt_of_block h.br
theorem PB.below {W W' : World} {b0 B : Nat} {v : Value} {Y : ByteArray} {t id : Int} (h : PB W b0 v Y t id) (hb : Below B W W') (hB : b0 + 2 < B) : PB W' b0 v Y t id :=
  ⟨(hb.block _ (by omega)).trans h.bb, (hb.block _ (by omega)).trans h.bx, (hb.block _ (by omega)).trans h.br⟩
theorem PB.made (w : World) (v : Value) (Y : ByteArray) (t id : Int) :
    PB (((w.alloc (.cells #[v, .string Y] 78)).alloc (.cells #[.int .i64 t, .int .i64 id] 30)).alloc (.cells #[.slice none 0 0, .string ⟨#[]⟩] 78)) w.heap.size v Y t id := by
  have s1 : (w.alloc (.cells #[v, .string Y] 78)).heap.size = w.heap.size + 1 := by simp
  have s2 : ((w.alloc (.cells #[v, .string Y] 78)).alloc (.cells #[.int .i64 t, .int .i64 id] 30)).heap.size = w.heap.size + 2 := by simp
  refine ⟨?_, ?_, ?_⟩
  · rw [Below.heap_alloc _ _ _ (by rw [s2]; omega), Below.heap_alloc _ _ _ (by rw [s1]; omega)]; exact heap_alloc_new _ _
  · rw [Below.heap_alloc _ _ _ (by rw [s2]; omega), ← s1]; exact heap_alloc_new _ _
  · rw [← s2]; exact heap_alloc_new _ _
theorem made_below (w : World) (o1 o2 o3 : Obj) : Below w.heap.size w (((w.alloc o1).alloc o2).alloc o3) := (((Below.refl _ _).alloc (Nat.le_refl _) _).alloc (by simp) _).alloc (by simp; omega) _
theorem PB.store {W : World} {b0 : Nat} {v : Value} {Y : ByteArray} {t id : Int} (h : PB W b0 v Y t id) (v' : Value) (Y' : ByteArray) : PB ((W.setCell ⟨b0, 0, none⟩ v').setCell ⟨b0, 1, none⟩ (.string Y')) b0 v' Y' t id := by
  have n1 : b0 + 1 ≠ b0 := by omega
  have n2 : b0 + 2 ≠ b0 := by omega
  refine ⟨heap_setCell_same _ _ _ _ _ _ (heap_setCell_same _ _ _ _ _ _ h.bb), ?_, ?_⟩
  · rw [heap_setCell_other _ _ _ _ n1, heap_setCell_other _ _ _ _ n1]; exact h.bx
  · rw [heap_setCell_other _ _ _ _ n2, heap_setCell_other _ _ _ _ n2]; exact h.br
theorem PB.drewN {W : World} {b0 : Nat} {v : Value} {Y : ByteArray} {t id : Int} (h : PB W b0 v Y t id) (q : Nat) : PB (W.drewN q) b0 v Y t id := ⟨h.bb, h.bx, h.br⟩
def PushNo (v : Value) (Y : ByteArray) (c : Int) (w : World) (e : Ending) (w' : World) : Prop := e = .returned (.tuple #[.agg #[v, .string Y], .int .i64 c]) ∧ Below w.heap.size w w'
set_option maxRecDepth 100000 in
set_option maxHeartbeats 2000000 in
theorem rpush_bad (a : Option Addr) (n c : Nat) (Y : ByteArray) (t id : Int) (w : World) (hbad : okE ⟨t, id, 0⟩ = false) :
    Calls Tryz.prog 61 #[.agg #[.slice a n c, .string Y], .agg #[.int .i64 t, .int .i64 id]] w fun e w' => PushNo (.slice a n c) Y 1 w e w' := by
  have hP := PB.made w (.slice a n c) Y t id
  have hb := made_below w (.cells #[.slice a n c, .string Y] 78) (.cells #[.int .i64 t, .int .i64 id] 30) (.cells #[.slice none 0 0, .string ⟨#[]⟩] 78)
  have hcc := chkI_one_bad hbad
  go_enter Tryz.func61, Tryz.ntmps61
  go_upto_region 1 with fail
  generalize ((w.alloc (.cells #[.slice a n c, .string Y] 78)).alloc (.cells #[.int .i64 t, .int .i64 id] 30)).alloc (.cells #[.slice none 0 0, .string ⟨#[]⟩] 78) = W at hP hb ⊢
  have hI := ritems_any [⟨t, id, 0⟩] (some ⟨W.heap.size, 0, none⟩) 1 (W.alloc (.cells #[.int .i64 t, .int .i64 id] 30)) (one_EvA (heap_alloc_new W _)) (by simp)
  rw [hcc] at hI
  simp only [List.length_cons, List.length_nil] at hI
  have HI := Lib.hid hI
  have hb1 : Below W.heap.size W (W.alloc (.cells #[.int .i64 t, .int .i64 id] 30)) := (Below.refl _ _).alloc (Nat.le_refl _) _
  have HB := Lib.hid (hb.trans (hb1.mono hb.size))
  have HP1 := Lib.hid (hP.below hb1 hP.lt)
  have x0 := hP.x0
  have x1 := hP.x1
  have hlt := hP.lt
  clear hI hb1 hb hcc hbad hP
  generalize hbe : w.heap.size = be at *
  have Hbe := Lib.hid hbe
  clear hbe
  go_wp2_with fail
  refine HI.out.mono ?_
  rintro e w1 ⟨rfl, q, rfl⟩
  generalize hW1 : (W.alloc (.cells #[.int .i64 t, .int .i64 id] 30)).drewN q = W1
  have HP2 : Hid (PB W1 be (.slice a n c) Y t id) := Lib.hid (by rw [← hW1]; exact ⟨HP1.out.bb, HP1.out.bx, HP1.out.br⟩)
  have HB2 : Hid (Below be w W1) := Lib.hid (by rw [← hW1]; exact drewN_below HB.out q)
  have y0 := HP2.out.b0
  have y1 := HP2.out.b1
  have f0 := HP2.out.fr 0
  have f1 := HP2.out.fr 1
  have q0 := HP2.out.r0
  have q1 := HP2.out.r1
  clear hW1 x0 x1 HI HP1 HB hlt
  go_wp2
  (try simp only [Exit.inBlock, Exit.then])
  refine bodyPost_ret (results_cellrow_tmp rfl _ _ (be + 2) _ _ _ _ rfl (heap_setCell_same _ _ _ _ _ _ (heap_setCell_same _ _ _ _ _ _ HP2.out.br)) Tryz.underlying78 rfl (by kernel_rfl)) rfl ?_
  refine ⟨rfl, ?_⟩
  rw [Hbe.out]
  exact (HB2.out.setCell (p := ⟨be + 2, 0, none⟩) (by show be ≤ be + 2; omega) _).setCell (p := ⟨be + 2, 1, none⟩) (by show be ≤ be + 2; omega) _
set_option maxRecDepth 100000 in
set_option maxHeartbeats 2000000 in
theorem rpush_full (a : Option Addr) (n c : Nat) (Y : ByteArray) (t id : Int) (w : World) (hok : okE ⟨t, id, 0⟩ = true) (hn : 60 ≤ n) :
    Calls Tryz.prog 61 #[.agg #[.slice a n c, .string Y], .agg #[.int .i64 t, .int .i64 id]] w fun e w' => PushNo (.slice a n c) Y 4 w e w' := by
  have hP := PB.made w (.slice a n c) Y t id
  have hb := made_below w (.cells #[.slice a n c, .string Y] 78) (.cells #[.int .i64 t, .int .i64 id] 30) (.cells #[.slice none 0 0, .string ⟨#[]⟩] 78)
  have hcc := chkI_one hok
  have hnI : (60 : Int) ≤ (n : Int) := by omega
  go_enter Tryz.func61, Tryz.ntmps61
  go_upto_region 1 with fail
  generalize ((w.alloc (.cells #[.slice a n c, .string Y] 78)).alloc (.cells #[.int .i64 t, .int .i64 id] 30)).alloc (.cells #[.slice none 0 0, .string ⟨#[]⟩] 78) = W at hP hb ⊢
  have hI := ritems_any [⟨t, id, 0⟩] (some ⟨W.heap.size, 0, none⟩) 1 (W.alloc (.cells #[.int .i64 t, .int .i64 id] 30)) (one_EvA (heap_alloc_new W _)) (by simp)
  rw [hcc] at hI
  simp only [List.length_cons, List.length_nil] at hI
  have HI := Lib.hid hI
  have hb1 : Below W.heap.size W (W.alloc (.cells #[.int .i64 t, .int .i64 id] 30)) := (Below.refl _ _).alloc (Nat.le_refl _) _
  have HB := Lib.hid (hb.trans (hb1.mono hb.size))
  have HP1 := Lib.hid (hP.below hb1 hP.lt)
  have x0 := hP.x0
  have x1 := hP.x1
  have hlt := hP.lt
  clear hI hb1 hb hcc hok hP
  generalize hbe : w.heap.size = be at *
  have Hbe := Lib.hid hbe
  clear hbe
  go_wp2_with fail
  refine HI.out.mono ?_
  rintro e w1 ⟨rfl, q, rfl⟩
  generalize hW1 : (W.alloc (.cells #[.int .i64 t, .int .i64 id] 30)).drewN q = W1
  have HP2 : Hid (PB W1 be (.slice a n c) Y t id) := Lib.hid (by rw [← hW1]; exact ⟨HP1.out.bb, HP1.out.bx, HP1.out.br⟩)
  have HB2 : Hid (Below be w W1) := Lib.hid (by rw [← hW1]; exact drewN_below HB.out q)
  have y0 := HP2.out.b0
  have y1 := HP2.out.b1
  have f0 := HP2.out.fr 0
  have f1 := HP2.out.fr 1
  have q0 := HP2.out.r0
  have q1 := HP2.out.r1
  clear hW1 x0 x1 HI HP1 HB hlt
  go_wp2
  (try simp only [Exit.inBlock, Exit.then])
  refine bodyPost_ret (results_cellrow_tmp rfl _ _ (be + 2) _ _ _ _ rfl (heap_setCell_same _ _ _ _ _ _ (heap_setCell_same _ _ _ _ _ _ HP2.out.br)) Tryz.underlying78 rfl (by kernel_rfl)) rfl ?_
  refine ⟨rfl, ?_⟩
  rw [Hbe.out]
  exact (HB2.out.setCell (p := ⟨be + 2, 0, none⟩) (by show be ≤ be + 2; omega) _).setCell (p := ⟨be + 2, 1, none⟩) (by show be ≤ be + 2; omega) _
/-- what a push that goes through tells: the item stands behind the others -/
def PushYes (l : List Ev) (T : List UInt8) (t id s : Int) (w : World) (e : Ending) (w' : World) : Prop :=
  ∃ a' c', e = .returned (.tuple #[.agg #[.slice a' (l.length + 1) c', .string ⟨(T ++ lineB (pushB t id)).toArray⟩], .int .i64 0]) ∧ EtOwn w' w.heap.size a' c' (l ++ [⟨t, id, s⟩]) ∧ Below w.heap.size w w'
set_option maxRecDepth 100000 in
set_option maxHeartbeats 2000000 in
theorem rpush_ok (B : Nat) (l : List Ev) (a : Option Addr) (c : Nat) (T : List UInt8) (t id s : Int) (w : World) (hO : EtOwn w B a c l) (hz : l = [] → a = none ∧ c = 0) (hok : okE ⟨t, id, 0⟩ = true) (hn : l.length < 60) (hT : T.length ≤ 200000000) :
    Calls Tryz.prog 61 #[.agg #[.slice a l.length c, .string ⟨T.toArray⟩], .agg #[.int .i64 t, .int .i64 id]] w fun e w' => PushYes l T t id s w e w' := by
  obtain ⟨Y, hY⟩ : ∃ Y : ByteArray, Y = ⟨T.toArray⟩ := ⟨_, rfl⟩
  rw [← hY]
  have HY := Lib.hid hY
  clear hY
  obtain ⟨n, hnn⟩ : ∃ n, n = l.length := ⟨_, rfl⟩
  rw [← hnn] at hn ⊢
  have Hnn := Lib.hid hnn
  clear hnn
  have hP := PB.made w (.slice a n c) Y t id
  have hb := made_below w (.cells #[.slice a n c, .string Y] 78) (.cells #[.int .i64 t, .int .i64 id] 30) (.cells #[.slice none 0 0, .string ⟨#[]⟩] 78)
  have hcc := chkI_one hok
  obtain ⟨t0, t1, d0, d1⟩ := okE_of hok
  go_enter Tryz.func61, Tryz.ntmps61
  go_upto_region 1 with fail
  generalize ((w.alloc (.cells #[.slice a n c, .string Y] 78)).alloc (.cells #[.int .i64 t, .int .i64 id] 30)).alloc (.cells #[.slice none 0 0, .string ⟨#[]⟩] 78) = W at hP hb ⊢
  have hI := ritems_any [⟨t, id, 0⟩] (some ⟨W.heap.size, 0, none⟩) 1 (W.alloc (.cells #[.int .i64 t, .int .i64 id] 30)) (one_EvA (heap_alloc_new W _)) (by simp)
  rw [hcc] at hI
  simp only [List.length_cons, List.length_nil] at hI
  have HI := Lib.hid hI
  have hb1 : Below W.heap.size W (W.alloc (.cells #[.int .i64 t, .int .i64 id] 30)) := (Below.refl _ _).alloc (Nat.le_refl _) _
  have HB := Lib.hid (hb.trans (hb1.mono hb.size))
  have HP1 := Lib.hid (hP.below hb1 hP.lt)
  have x0 := hP.x0
  have x1 := hP.x1
  have hlt := hP.lt
  clear hI hb1 hb hcc hok hP
  generalize hbe : w.heap.size = be at *
  have Hbe := Lib.hid hbe
  clear hbe
  go_wp2_with fail
  refine HI.out.mono ?_
  rintro e w1 ⟨rfl, q, rfl⟩
  generalize hW1 : (W.alloc (.cells #[.int .i64 t, .int .i64 id] 30)).drewN q = W1
  have HP2 : Hid (PB W1 be (.slice a n c) Y t id) := Lib.hid (by rw [← hW1]; exact ⟨HP1.out.bb, HP1.out.bx, HP1.out.br⟩)
  have HB2 : Hid (Below be w W1) := Lib.hid (by rw [← hW1]; exact drewN_below HB.out q)
  have y0 := HP2.out.b0
  have y1 := HP2.out.b1
  have f0 := HP2.out.fr 0
  have f1 := HP2.out.fr 1
  have q0 := HP2.out.r0
  have q1 := HP2.out.r1
  have HOw := Lib.hid hO
  have Hz := Lib.hid hz
  have y2 := HP2.out.x0
  have y3 := HP2.out.x1
  have g0 := HP2.out.fb 0
  have g1 := HP2.out.fb 1
  have hlt1 := HP2.out.lt
  have hnI : ¬ ((60 : Int) ≤ (n : Int)) := by omega
  have hnd : decide ((60 : Int) ≤ (n : Int)) = false := decide_eq_false hnI
  have HD : Hid (∀ (W : World) (z : Int), -1000000 ≤ z → z ≤ 1000000 → Calls Tryz.prog 57 #[.int .i64 z] W fun e w' => e = .returned (.string ⟨(Lib.itoa z).toArray⟩) ∧ w' = W) := Lib.hid fun W z g0 g1 => rdigits_any z (by omega) (by omega) W
  obtain ⟨X1, e1, z1⟩ := mk_list ([112, 117, 115, 104, 32] ++ Lib.itoa t)
  obtain ⟨X2, e2, z2⟩ := mk_list (X1.data.toList ++ [32])
  obtain ⟨X3, e3, z3⟩ := mk_list (X2.data.toList ++ Lib.itoa id)
  have hl1 := itoa_len t (by omega) (by omega)
  have hl2 := itoa_len id (by omega) (by omega)
  have hx1 : X1.data.toList.length = X1.size := (Lib.size_eq X1).symm
  have hx2 : X2.data.toList.length = X2.size := (Lib.size_eq X2).symm
  have s1 : X1.size = 5 + (Lib.itoa t).length := by rw [z1, List.length_append]; rfl
  have s2 : X2.size = X1.size + 1 := by rw [z2, List.length_append, hx1]; rfl
  have s3 : X3.size = X2.size + (Lib.itoa id).length := by rw [z3, List.length_append, hx2]
  have r1 := cat_run (P := Tryz.prog) ⟨#[112, 117, 115, 104, 32]⟩ ⟨(Lib.itoa t).toArray⟩ X1 (by rw [e1]) (by rw [mk_size (Lib.itoa t)]; show 5 + _ ≤ _; omega)
  have r2 := cat_run (P := Tryz.prog) X1 ⟨#[32]⟩ X2 (by rw [e2]) (by show _ + 1 ≤ _; omega)
  have r3 := cat_run (P := Tryz.prog) X2 ⟨(Lib.itoa id).toArray⟩ X3 (by rw [e3]) (by rw [mk_size (Lib.itoa id)]; omega)
  have HX := Lib.hid (show X3.data.toList = pushB t id by rw [e3, e2, e1]; unfold pushB; simp)
  have hX3 : X3.size ≤ 1000 := by omega
  obtain ⟨Y2, hY2⟩ : ∃ Y : ByteArray, Y = ⟨(T ++ lineB (pushB t id)).toArray⟩ := ⟨_, rfl⟩
  have HY2 := Lib.hid hY2
  have HWr : Hid (∀ W : World, Calls Tryz.prog 83 #[.agg #[.slice a n c, .string Y], .string X3] W fun e w' => e = .returned (.agg #[.slice a n c, .string Y2]) ∧ Below W.heap.size W w') := Lib.hid fun W => by
    have h := rwrite_any a n c T X3 W (by omega) (by omega)
    rw [HX.out, ← HY2.out, ← HY.out] at h
    exact h
  clear e1 e2 e3 z1 z2 z3 hx1 hx2 s1 s2 s3 hl1 hl2 hY2 hO hz
  clear hW1 x0 x1 HI HP1 HB hlt
  go_upto_region 6 with fail
  have HF6 : Hid (∀ w6, Below W1.drew.heap.size W1.drew w6 → Hid (PB w6 be (.slice a n c) Y t id) ∧ Hid (Below be w w6) ∧ w6.frozen? ⟨be, 0, none⟩ = false ∧ w6.frozen? ⟨be, 1, none⟩ = false ∧ w6.cell? ⟨be, 0, none⟩ = some (.slice a n c) ∧ w6.cell? ⟨be, 1, none⟩ = some (.string Y)) := Lib.hid fun w6 b6 => by
    have h1 : PB w6 be (.slice a n c) Y t id := (HP2.out.drewN 1).below b6 hlt1
    have h2 : Below be w w6 := (drewN_below HB2.out 1).trans (b6.mono (by have := hlt1; show be ≤ W1.heap.size; omega))
    exact ⟨Lib.hid h1, Lib.hid h2, h1.fb 0, h1.fb 1, h1.b0, h1.b1⟩
  go_cut [6] (fun s6 wx => s6 = .int .i64 0 ∧ PB wx be (.slice a n c) Y2 t id ∧ Below be w wx)
  case first =>
    go_region_with (first
      | (go_at_call_of 57 (Value.int IntKind.i64 t); refine (HD.out _ t t0 t1).mono ?_; rintro e w4 ⟨rfl, rfl⟩)
      | (go_at_call_of 57 (Value.int IntKind.i64 id); refine (HD.out _ id (by omega) d1).mono ?_; rintro e w5 ⟨rfl, rfl⟩)
      | (go_at_call 83; refine (HWr.out _).mono ?_; rintro e w6 ⟨rfl, b6⟩; obtain ⟨HP6, HB6, k0, k1, k2, k3⟩ := HF6.out _ b6; clear b6))
    all_goals
      go_wp2_with fail
      go_meet
      exact ⟨rfl, HP6.out.store _ _, (HB6.out.setCell (p := ⟨be, 0, none⟩) (Nat.le_refl _) _).setCell (p := ⟨be, 1, none⟩) (Nat.le_refl _) _⟩
  case rest =>
    obtain ⟨rfl, hP7, hB7⟩ := hcut
    obtain ⟨i0, hi0, hz0, hz1, hz2⟩ := info_parts etInfo
    have b0 := hP7.b0
    have b1 := hP7.b1
    have x0 := hP7.x0
    have x1 := hP7.x1
    have hl7 := hP7.lt
    have HP7 := Lib.hid hP7
    have HB7 := Lib.hid hB7
    have hB7' : Below w.heap.size w wc := by rw [Hbe.out]; exact hB7
    have HO7 := Lib.hid (show EtOwn wc B a c l from HOw.out.same fun k hk => hB7'.block k (HOw.out.lt k hk).2)
    have HL : Hid (∀ (v2 : Value) (w2 : World) (m : Nat), m = n + 1 → w2.ownsRow wc.heap.size 30 2 v2 m (flat2 l ++ [.int .i64 t, .int .i64 id]) → Below wc.heap.size wc w2 → ∃ a2 c2, v2 = .slice a2 (n + 1) c2 ∧ Hid (EtOwn w2 wc.heap.size a2 c2 (l ++ [⟨t, id, s⟩])) ∧ Hid (PB w2 be (.slice a n c) Y2 t id ∧ Below be w w2) ∧
        w2.cell? ⟨be, 0, none⟩ = some (.slice a n c) ∧ w2.cell? ⟨be, 1, none⟩ = some (.string Y2) ∧ w2.frozen? ⟨be, 0, none⟩ = false ∧ w2.frozen? ⟨be, 1, none⟩ = false ∧ w2.cell? ⟨be + 2, 0, none⟩ = some (.slice none 0 0) ∧ w2.cell? ⟨be + 2, 1, none⟩ = some (.string ⟨#[]⟩) ∧ w2.frozen? ⟨be + 2, 0, none⟩ = false ∧ w2.frozen? ⟨be + 2, 1, none⟩ = false) := Lib.hid fun v2 w2 m hm o2 b2 => by
      subst hm
      have e : flat2 (l ++ [⟨t, id, s⟩]) = flat2 l ++ [.int .i64 t, .int .i64 id] := by rw [flat2_append]; rfl
      rw [← e] at o2
      obtain ⟨a2, c2, rfl, h⟩ := EtOwn.of o2
      have hp : PB w2 be (.slice a n c) Y2 t id := HP7.out.below b2 HP7.out.lt
      exact ⟨a2, c2, by rw [List.length_append, ← Hnn.out]; rfl, Lib.hid h, Lib.hid ⟨hp, HB7.out.trans (b2.mono (by have := HP7.out.lt; omega))⟩, hp.b0, hp.b1, hp.fb 0, hp.fb 1, hp.r0, hp.r1, hp.fr 0, hp.fr 1⟩
    have HFin : Hid (∀ (w2 : World) (a2 : Option Addr) (c2 : Nat) (x y z : Value), EtOwn w2 wc.heap.size a2 c2 (l ++ [⟨t, id, s⟩]) → Below be w w2 → EtOwn (((w2.setCell ⟨be, 0, none⟩ x).setCell ⟨be + 2, 0, none⟩ y).setCell ⟨be + 2, 1, none⟩ z) w.heap.size a2 c2 (l ++ [⟨t, id, s⟩]) ∧ Below w.heap.size w (((w2.setCell ⟨be, 0, none⟩ x).setCell ⟨be + 2, 0, none⟩ y).setCell ⟨be + 2, 1, none⟩ z)) := Lib.hid fun w2 a2 c2 x y z hO hb => by
      have hlt := HP7.out.lt
      refine ⟨?_, ?_⟩
      · have h1 : EtOwn (((w2.setCell ⟨be, 0, none⟩ x).setCell ⟨be + 2, 0, none⟩ y).setCell ⟨be + 2, 1, none⟩ z) wc.heap.size a2 c2 (l ++ [⟨t, id, s⟩]) := hO.same fun k hk => by
          have := (hO.lt k hk).1
          rw [heap_setCell_other _ _ _ _ (by show k ≠ be + 2; omega), heap_setCell_other _ _ _ _ (by show k ≠ be + 2; omega), heap_setCell_other _ _ _ _ (by show k ≠ be; omega)]
        exact h1.mono (by have := HB7.out.size; omega)
      · rw [Hbe.out]
        exact ((hb.setCell (p := ⟨be, 0, none⟩) (Nat.le_refl _) _).setCell (p := ⟨be + 2, 0, none⟩) (by show be ≤ be + 2; omega) _).setCell (p := ⟨be + 2, 1, none⟩) (by show be ≤ be + 2; omega) _
    clear hP7 hB7 hB7'
    by_cases hl0 : l = []
    · obtain ⟨rfl, rfl⟩ := Hz.out hl0
      have hn0 : n = 0 := by rw [Hnn.out, hl0]; rfl
      subst hn0
      have Hl0 := Lib.hid (show flat2 l = [] by rw [hl0]; rfl)
      clear hl0
      go_wp2_with (first | (at_builtin; refine wpList_append_own_none _ rfl (.tmp 34) (.tmp 36) 22 rfl wc.heap.size 30 i0 2 Tryz.underlying22 hi0 (.slice none 0 0) 0 [] rfl (World.ownsRow_nil _ _ _ _) rfl ?_) | (at_builtin; refine wpList_append_own _ rfl (.tmp 38) (.tmp 40) 22 rfl wc.heap.size 30 i0 (.agg #[.int .i64 0, .int .i64 0]) 2 16 Tryz.underlying22 hi0 hz0 hz1 hz2 rfl (by decide) (.slice none 0 0) 0 [] rfl (World.ownsRow_nil _ _ _ _) ⟨_, 0, none⟩ 1 1 [.int .i64 t, .int .i64 id] rfl rfl (et_cells_new _ _ _ _ _ (by simp)) (by simp [Value.oneCell']) (by unfold maxLen; omega) (by omega) (by simp; try omega) ?_; intro v2 w2 o2 g2 _; obtain ⟨a2, c2, rfl, HO2, HB2', k0, k1, k2, k3, k4, k5, k6, k7⟩ := HL.out _ w2 1 rfl (by rw [Hl0.out]; exact o2) (grown_below ((g2)) (by simp) (fun k hk => by simp [Value.ownBlock] at hk) |> fun h => ((Below.refl _ _).alloc (Nat.le_refl _) _).trans h)))
      (try simp only [Exit.inBlock, Exit.then])
      refine bodyPost_ret (results_cellrow_tmp rfl _ _ (be + 2) _ _ _ _ rfl (heap_setCell_same _ _ _ _ _ _ (heap_setCell_same _ _ _ _ _ _ ((heap_setCell_other _ _ _ _ (by show be + 2 ≠ be; omega)).trans HB2'.out.1.br))) Tryz.underlying78 rfl (by kernel_rfl)) rfl ?_
      exact ⟨a2, c2, by rw [← Hnn.out, ← HY2.out]; rfl, HFin.out w2 a2 c2 _ _ _ HO2.out HB2'.out.2⟩
    · obtain ⟨g, rfl, _, _, _⟩ := HO7.out.open (List.length_pos_iff.2 hl0)
      have HLen := Lib.hid (show (flat2 l).length = n * 2 by rw [flat2_length, Hnn.out])
      have HCe := Lib.hid (show ∀ j u, (flat2 l)[j]? = some u → wc.cell? ((⟨g, 0, none⟩ : Addr).add j) = some u by
        have := HO7.out.from 0 l.length (by omega)
        rw [List.drop_zero, List.take_length, Nat.zero_mul] at this
        exact this)
      have HX1 : Hid (∀ w1, Below wc.heap.size wc w1 → w1.cell? ⟨be + 1, 0, none⟩ = some (.int .i64 t) ∧ w1.cell? ⟨be + 1, 1, none⟩ = some (.int .i64 id)) := Lib.hid fun w1 b => by
        have hp := HP7.out.below b HP7.out.lt
        exact ⟨hp.x0, hp.x1⟩
      clear hl0
      go_wp2_with (first | (at_builtin; refine wpList_append_own _ rfl (.tmp 34) (.tmp 36) 22 rfl wc.heap.size 30 i0 (.agg #[.int .i64 0, .int .i64 0]) 2 16 Tryz.underlying22 hi0 hz0 hz1 hz2 rfl (by decide) (.slice none 0 0) 0 [] rfl (World.ownsRow_nil _ _ _ _) ⟨g, 0, none⟩ n c (flat2 l) rfl HLen.out HCe.out (one_cells2 _) (by unfold maxLen; omega) (by omega) (Nat.le_refl _) ?_; intro v1 w1 o1 g1 _; have HO1 := Lib.hid o1; have HG1 := Lib.hid (grown_below g1 (Nat.le_refl _) (fun k hk => by simp [Value.ownBlock] at hk)); obtain ⟨y0, y1⟩ := HX1.out w1 HG1.out; clear o1 g1) | (at_builtin; refine wpList_append_own _ rfl (.tmp 38) (.tmp 40) 22 rfl wc.heap.size 30 i0 (.agg #[.int .i64 0, .int .i64 0]) 2 16 Tryz.underlying22 hi0 hz0 hz1 hz2 rfl (by decide) v1 (0 + n) ([] ++ flat2 l) rfl (World.ownsRow.alloc HO1.out _) ⟨_, 0, none⟩ 1 1 [.int .i64 t, .int .i64 id] rfl rfl (et_cells_new _ _ _ _ _ (by simp)) (by simp [Value.oneCell']) (by unfold maxLen; omega) (by omega) (by have := HG1.out.size; simp; omega) ?_; intro v2 w2 o2 g2 _; obtain ⟨a2, c2, rfl, HO2, HB2', k0, k1, k2, k3, k4, k5, k6, k7⟩ := HL.out _ w2 (0 + n + 1) (by omega) (by simpa using o2) ((HG1.out.alloc HG1.out.size _).trans (grown_below g2 (by have := HG1.out.size; simp; omega) (fun k hk => (World.ownsRow.lt HO1.out k hk).1)))))
      (try simp only [Exit.inBlock, Exit.then])
      refine bodyPost_ret (results_cellrow_tmp rfl _ _ (be + 2) _ _ _ _ rfl (heap_setCell_same _ _ _ _ _ _ (heap_setCell_same _ _ _ _ _ _ ((heap_setCell_other _ _ _ _ (by show be + 2 ≠ be; omega)).trans HB2'.out.1.br))) Tryz.underlying78 rfl (by kernel_rfl)) rfl ?_
      exact ⟨a2, c2, by rw [← Hnn.out, ← HY2.out]; rfl, HFin.out w2 a2 c2 _ _ _ HO2.out HB2'.out.2⟩
end Go.Proofs.YtfejlkgddnamoaaGreatDoor
