/- WALKS: the document's Pop. -/
import Derived.Test.YtfejlkgddnamoaaGreatDoorBkRef
import Derived.Test.YtfejlkgddnamoaaGreatDoorFirst
import Derived.BigQuiet
set_option linter.unusedVariables false
set_option linter.unusedSimpArgs false
namespace Go.Proofs.YtfejlkgddnamoaaGreatDoor
open Go Go.RowKit SimPlain HeapPlain BookPlain

theorem results_cells_tmp {P : Program} {fn : Func} {p1 p2 u : Tmp} {ty1 ty2 : TypeId} (h : fn.results = #[.cell p1 ty1, .cell p2 ty2, .tmp u]) (tmps : Array Value) (w : World) (g1 g2 : Nat) (t1 t2 : TypeId) (cs1 cs2 : Array Value) (fr1 fr2 : Nat × Nat) (d1 d2 : TypeDesc)
    (hp1 : tmps.getD p1 undef = .pointer (some ⟨g1, 0, none⟩)) (hp2 : tmps.getD p2 undef = .pointer (some ⟨g2, 0, none⟩)) (hg1 : w.heap[g1]? = some (.cells cs1 t1 fr1)) (hg2 : w.heap[g2]? = some (.cells cs2 t2 fr2))
    (hu1 : P.underlying ty1 = some d1) (hd1 : (match d1 with | .struct _ | .array _ _ => true | _ => false) = true) (hi1 : (P.info? ty1).map (·.size) = some cs1.size)
    (hu2 : P.underlying ty2 = some d2) (hd2 : (match d2 with | .struct _ | .array _ _ => true | _ => false) = true) (hi2 : (P.info? ty2).map (·.size) = some cs2.size) :
    (results fn tmps).run P w = .ok (.tuple #[.agg cs1, .agg cs2, tmps.getD u undef]) w := by
  have k1 : tmps[p1]?.getD undef = .pointer (some ⟨g1, 0, none⟩) := by rw [← hp1]; simp
  have k2 : tmps[p2]?.getD undef = .pointer (some ⟨g2, 0, none⟩) := by rw [← hp2]; simp
  simp only [results, h]
  simp [Sem.run_bind, Result.andThen, k1, k2, asAddr, run_loadVar_row w g1 t1 ty1 cs1 fr1 d1 hg1 hu1 hd1 hi1, run_loadVar_row w g2 t2 ty2 cs2 fr2 d2 hg2 hu2 hd2 hi2]
/-- a pop's three new blocks: the book, the results -/
structure QB (W : World) (b0 : Nat) (v : Value) (Y : ByteArray) : Prop where
  bb : W.heap[b0]? = some (.cells #[v, .string Y] 78 (0, 0))
  r1 : W.heap[b0 + 1]? = some (.cells #[.slice none 0 0, .string ⟨#[]⟩] 78 (0, 0))
  r2 : W.heap[b0 + 2]? = some (.cells #[.int .i64 0, .int .i64 0] 30 (0, 0))
theorem QB.c0 {W : World} {b0 : Nat} {v : Value} {Y : ByteArray} (h : QB W b0 v Y) : W.cell? ⟨b0, 0, none⟩ = some v := by have := h.bb; simp [World.cell?, this]
theorem QB.c1 {W : World} {b0 : Nat} {v : Value} {Y : ByteArray} (h : QB W b0 v Y) : W.cell? ⟨b0, 1, none⟩ = some (.string Y) := by have := h.bb; simp [World.cell?, this]
theorem QB.p0 {W : World} {b0 : Nat} {v : Value} {Y : ByteArray} (h : QB W b0 v Y) : W.cell? ⟨b0 + 1, 0, none⟩ = some (.slice none 0 0) := by have := h.r1; simp [World.cell?, this]
theorem QB.p1 {W : World} {b0 : Nat} {v : Value} {Y : ByteArray} (h : QB W b0 v Y) : W.cell? ⟨b0 + 1, 1, none⟩ = some (.string ⟨#[]⟩) := by have := h.r1; simp [World.cell?, this]
theorem QB.q0 {W : World} {b0 : Nat} {v : Value} {Y : ByteArray} (h : QB W b0 v Y) : W.cell? ⟨b0 + 2, 0, none⟩ = some (.int .i64 0) := by have := h.r2; simp [World.cell?, this]
theorem QB.q1 {W : World} {b0 : Nat} {v : Value} {Y : ByteArray} (h : QB W b0 v Y) : W.cell? ⟨b0 + 2, 1, none⟩ = some (.int .i64 0) := by have := h.r2; simp [World.cell?, this]
theorem QB.fb {W : World} {b0 : Nat} {v : Value} {Y : ByteArray} (h : QB W b0 v Y) (o : Nat) : W.frozen? ⟨b0, o, none⟩ = false := by have := h.bb; simp [World.frozen?, this]
theorem QB.f1 {W : World} {b0 : Nat} {v : Value} {Y : ByteArray} (h : QB W b0 v Y) (o : Nat) : W.frozen? ⟨b0 + 1, o, none⟩ = false := by have := h.r1; simp [World.frozen?, this]
theorem QB.f2 {W : World} {b0 : Nat} {v : Value} {Y : ByteArray} (h : QB W b0 v Y) (o : Nat) : W.frozen? ⟨b0 + 2, o, none⟩ = false := by have := h.r2; simp [World.frozen?, this]
theorem QB.lt {W : World} {b0 : Nat} {v : Value} {Y : ByteArray} (h : QB W b0 v Y) : b0 + 2 < W.heap.size := lt_of_block h.r2
theorem QB.below {W W' : World} {b0 B : Nat} {v : Value} {Y : ByteArray} (h : QB W b0 v Y) (hb : Below B W W') (hB : b0 + 2 < B) : QB W' b0 v Y :=
  ⟨(hb.block _ (by omega)).trans h.bb, (hb.block _ (by omega)).trans h.r1, (hb.block _ (by omega)).trans h.r2⟩
theorem QB.drewN {W : World} {b0 : Nat} {v : Value} {Y : ByteArray} (h : QB W b0 v Y) (q : Nat) : QB (W.drewN q) b0 v Y := ⟨h.bb, h.r1, h.r2⟩
theorem QB.store {W : World} {b0 : Nat} {v : Value} {Y : ByteArray} (h : QB W b0 v Y) (v' : Value) (Y' : ByteArray) : QB ((W.setCell ⟨b0, 0, none⟩ v').setCell ⟨b0, 1, none⟩ (.string Y')) b0 v' Y' := by
  have n1 : b0 + 1 ≠ b0 := by omega
  have n2 : b0 + 2 ≠ b0 := by omega
  refine ⟨heap_setCell_same _ _ _ _ _ _ (heap_setCell_same _ _ _ _ _ _ h.bb), ?_, ?_⟩
  · rw [heap_setCell_other _ _ _ _ n1, heap_setCell_other _ _ _ _ n1]; exact h.r1
  · rw [heap_setCell_other _ _ _ _ n2, heap_setCell_other _ _ _ _ n2]; exact h.r2
theorem QB.made (w : World) (v : Value) (Y : ByteArray) :
    QB (((w.alloc (.cells #[v, .string Y] 78)).alloc (.cells #[.slice none 0 0, .string ⟨#[]⟩] 78)).alloc (.cells #[.int .i64 0, .int .i64 0] 30)) w.heap.size v Y := by
  have s1 : (w.alloc (.cells #[v, .string Y] 78)).heap.size = w.heap.size + 1 := by simp
  have s2 : ((w.alloc (.cells #[v, .string Y] 78)).alloc (.cells #[.slice none 0 0, .string ⟨#[]⟩] 78)).heap.size = w.heap.size + 2 := by simp
  refine ⟨?_, ?_, ?_⟩
  · rw [Below.heap_alloc _ _ _ (by rw [s2]; omega), Below.heap_alloc _ _ _ (by rw [s1]; omega)]; exact heap_alloc_new _ _
  · rw [Below.heap_alloc _ _ _ (by rw [s2]; omega), ← s1]; exact heap_alloc_new _ _
  · rw [← s2]; exact heap_alloc_new _ _
theorem made_below3 (w : World) (o1 o2 o3 : Obj) : Below w.heap.size w (((w.alloc o1).alloc o2).alloc o3) := (((Below.refl _ _).alloc (Nat.le_refl _) _).alloc (by simp) _).alloc (by simp; omega) _
def PopNo (v : Value) (Y : ByteArray) (w : World) (e : Ending) (w' : World) : Prop := e = .returned (.tuple #[.agg #[v, .string Y], .agg #[.int .i64 0, .int .i64 0], .int .i64 5]) ∧ Below w.heap.size w w'
set_option maxRecDepth 100000 in
set_option maxHeartbeats 2000000 in
theorem rpop_none (Y : ByteArray) (w : World) :
    Calls Tryz.prog 58 #[.agg #[.slice none 0 0, .string Y]] w fun e w' => PopNo (.slice none 0 0) Y w e w' := by
  have hP := QB.made w (.slice none 0 0) Y
  have hb := made_below3 w (.cells #[.slice none 0 0, .string Y] 78) (.cells #[.slice none 0 0, .string ⟨#[]⟩] 78) (.cells #[.int .i64 0, .int .i64 0] 30)
  go_enter Tryz.func58, Tryz.ntmps58
  go_upto_region 1 with fail
  generalize ((w.alloc (.cells #[.slice none 0 0, .string Y] 78)).alloc (.cells #[.slice none 0 0, .string ⟨#[]⟩] 78)).alloc (.cells #[.int .i64 0, .int .i64 0] 30) = W at hP hb ⊢
  have c0 := hP.c0
  have c1 := hP.c1
  have p0 := hP.p0
  have p1 := hP.p1
  have q0 := hP.q0
  have q1 := hP.q1
  have f0 := hP.f1 0
  have f1 := hP.f1 1
  have g0 := hP.f2 0
  have g1 := hP.f2 1
  have HP := Lib.hid hP
  have HB := Lib.hid hb
  clear hP hb
  generalize hbe : w.heap.size = be at *
  go_wp2
  (try simp only [Exit.inBlock, Exit.then])
  have n1 : be + 2 ≠ be + 1 := by omega
  have n2 : be + 1 ≠ be + 2 := by omega
  refine bodyPost_ret (results_cells_tmp rfl _ _ (be + 1) (be + 2) _ _ _ _ _ _ _ _ rfl rfl
    ((heap_setCell_other _ _ _ _ n2).trans ((heap_setCell_other _ _ _ _ n2).trans (heap_setCell_same _ _ _ _ _ _ (heap_setCell_same _ _ _ _ _ _ HP.out.r1))))
    (heap_setCell_same _ _ _ _ _ _ (heap_setCell_same _ _ _ _ _ _ ((heap_setCell_other _ _ _ _ n1).trans ((heap_setCell_other _ _ _ _ n1).trans HP.out.r2))))
    Tryz.underlying78 rfl (by kernel_rfl) Tryz.underlying30 rfl (by kernel_rfl)) rfl ?_
  refine ⟨rfl, ?_⟩
  rw [hbe]
  exact (((HB.out.setCell (p := ⟨be + 1, 0, none⟩) (by show be ≤ be + 1; omega) _).setCell (p := ⟨be + 1, 1, none⟩) (by show be ≤ be + 1; omega) _).setCell (p := ⟨be + 2, 0, none⟩) (by show be ≤ be + 2; omega) _).setCell (p := ⟨be + 2, 1, none⟩) (by show be ≤ be + 2; omega) _
/-- what a pop that goes through tells: the first of the least goes -/
def PopYes (l : List Ev) (k : Nat) (T : List UInt8) (w : World) (e : Ending) (w' : World) : Prop :=
  ∃ a' c', e = .returned (.tuple #[.agg #[.slice a' (l.eraseIdx k).length c', .string ⟨(T ++ lineB popB).toArray⟩], .agg #[.int .i64 (l.getD k e0).t, .int .i64 (l.getD k e0).id], .int .i64 0]) ∧ EtOwn w' w.heap.size a' c' (l.eraseIdx k) ∧ (l.eraseIdx k = [] → a' = none ∧ c' = 0) ∧ Below w.heap.size w w'
set_option maxRecDepth 100000 in
set_option maxHeartbeats 4000000 in
theorem rpop_some (B : Nat) (l : List Ev) (kk : Nat) (hkk : IsFirst l kk) (a : Option Addr) (c : Nat) (T : List UInt8) (w : World) (hO : EtOwn w B a c l) (hn : l.length ≤ 60) (hT : T.length ≤ 200000000) :
    Calls Tryz.prog 58 #[.agg #[.slice a l.length c, .string ⟨T.toArray⟩]] w fun e w' => PopYes l kk T w e w' := by
  obtain ⟨Y, hY⟩ : ∃ Y : ByteArray, Y = ⟨T.toArray⟩ := ⟨_, rfl⟩
  rw [← hY]
  have HY := Lib.hid hY
  have hkl := hkk.lt
  obtain ⟨g, rfl, _, hgl, _⟩ := hO.open (by omega)
  have hroom := hO.room.1
  have hcm := hO.room.2
  unfold maxLen at hcm
  obtain ⟨n, hnn⟩ : ∃ n, n = l.length := ⟨_, rfl⟩
  rw [← hnn] at hn hkl hroom ⊢
  have Hnn := Lib.hid hnn
  have HK := Lib.hid hkk
  have HO := Lib.hid hO
  clear hY hnn hkk hO
  have hP := QB.made w (.slice (some ⟨g, 0, none⟩) n c) Y
  have hb := made_below3 w (.cells #[.slice (some ⟨g, 0, none⟩) n c, .string Y] 78) (.cells #[.slice none 0 0, .string ⟨#[]⟩] 78) (.cells #[.int .i64 0, .int .i64 0] 30)
  go_enter Tryz.func58, Tryz.ntmps58
  go_upto_region 1 with fail
  generalize ((w.alloc (.cells #[.slice (some ⟨g, 0, none⟩) n c, .string Y] 78)).alloc (.cells #[.slice none 0 0, .string ⟨#[]⟩] 78)).alloc (.cells #[.int .i64 0, .int .i64 0] 30) = W at hP hb ⊢
  have c0 := hP.c0
  have HP := Lib.hid hP
  have HB := Lib.hid hb
  have hO1 : EtOwn W B (some ⟨g, 0, none⟩) c l := HO.out.same fun k hk => hb.block k (HO.out.lt k hk).2
  have HO1 := Lib.hid hO1
  have hne : ((n : Int) == 0) = false := by rw [beq_eq_false_iff_ne]; omega
  clear hP hb hO1
  generalize hbe : w.heap.size = be at *
  have Hbe := Lib.hid hbe
  clear hbe
  go_wp2
  go_loopw [5, 6] (fun kv iv wr => ∃ k i q : Nat, kv = .int .i64 k ∧ iv = .int .i64 i ∧ i ≤ n ∧ FirstAt l i k ∧ wr = W.drewN q) (fun _ iv _ => n - (intOf iv).toNat)
  case atStart => exact ⟨0, 0, 0, rfl, rfl, Nat.zero_le _, ⟨by rw [← Hnn.out]; omega, fun j h => by omega, fun j h => by omega⟩, rfl⟩
  case round =>
    obtain ⟨k, i, q, rfl, rfl, hi, hF, hw⟩ := hrel
    have hkn : k < n := by rw [Hnn.out]; exact hF.lt
    have HF := Lib.hid hF
    have HPq : Hid (QB wr be (.slice (some ⟨g, 0, none⟩) n c) Y) := Lib.hid (by rw [hw]; exact HP.out.drewN q)
    have HOq : Hid (EtOwn wr B (some ⟨g, 0, none⟩) c l) := Lib.hid (by rw [hw]; exact HO1.out)
    have HBq : Hid (Below be w wr) := Lib.hid (by rw [hw]; exact drewN_below HB.out q)
    have HW := Lib.hid hw
    have c0 := HPq.out.c0
    obtain ⟨g', hg', _, hgl2, hcell⟩ := HOq.out.open (by rw [← Hnn.out]; omega)
    obtain rfl : g = g' := by simpa using hg'
    clear hF hw hg'
    rcases Nat.lt_or_ge i n with hlt | hge
    · have ci := (hcell i (by rw [← Hnn.out]; exact hlt)).1
      have ck := (hcell k (by rw [← Hnn.out]; exact hkn)).1
      have hiI : (i : Int) < n := by omega
      have hkI : (k : Int) < n := by omega
      have HN := Lib.hid (fun h => HF.out.new (by rw [← Hnn.out]; exact hlt) h)
      have HOl := Lib.hid (fun h => HF.out.old (i := i) h)
      clear hcell
      generalize (l.getD i e0).t = ti at *
      generalize (l.getD k e0).t = tk at *
      rcases Int.lt_or_le ti tk with h | h
      · have HF2 := Lib.hid (HN.out h)
        go_wp2
        go_quiet (fail)
        go_wp2
        go_roundw
        case rel => exact ⟨i, i + 1, _, rfl, by go_num, by omega, HF2.out, by rw [HW.out, World.drewN_drewN]⟩
        case measure => simp only [intOf]; omega
      · have HF2 := Lib.hid (HOl.out h)
        have hd : decide (ti < tk) = false := decide_eq_false (by omega)
        go_wp2
        go_quiet (fail)
        go_wp2
        go_roundw
        case rel => exact ⟨k, i + 1, _, rfl, by go_num, by omega, HF2.out, by rw [HW.out, World.drewN_drewN]⟩
        case measure => simp only [intOf]; omega
    · obtain rfl : n = i := by omega
      have h3 : decide (n < n) = false := by simp
      have hk : k = kk := first_same (by have := HF.out; rw [Hnn.out] at this; exact this.full) HK.out
      subst hk
      obtain ⟨x0, x1⟩ := hcell k (by rw [← Hnn.out]; exact hkn)
      have hkI : (k : Int) < n := by omega
      obtain ⟨xt, hxt⟩ : ∃ x, x = (l.getD k e0).t := ⟨_, rfl⟩
      obtain ⟨xi, hxi⟩ : ∃ x, x = (l.getD k e0).id := ⟨_, rfl⟩
      rw [← hxt] at x0
      rw [← hxi] at x1
      have Hxt := Lib.hid hxt
      have Hxi := Lib.hid hxi
      clear hcell hxt hxi HF
      go_upto_region 10 with fail
      obtain ⟨i0, hi0, hz0, hz1, hz2⟩ := info_parts etInfo
      obtain ⟨W3, hW3⟩ : ∃ W3, W3 = wr.alloc (.cells #[.int .i64 xt, .int .i64 xi] 30) := ⟨_, rfl⟩
      have hx3 : W3.heap[wr.heap.size]? = some (.cells #[.int .i64 xt, .int .i64 xi] 30 (0, 0)) := by rw [hW3]; exact heap_alloc_new _ _
      have hb3 : Below wr.heap.size wr W3 := by rw [hW3]; exact (Below.refl _ _).alloc (Nat.le_refl _) _
      have hs3 : W3.heap.size = wr.heap.size + 1 := by rw [hW3]; simp
      try rw [← hW3]
      have hQ3 : QB W3 be (.slice (some ⟨g, 0, none⟩) n c) Y := HPq.out.below hb3 HPq.out.lt
      have hB3 : Below be w W3 := HBq.out.trans (hb3.mono (by have := HPq.out.lt; omega))
      have hbx : be + 2 < wr.heap.size := HPq.out.lt
      have hE3 : EtOwn W3 B (some ⟨g, 0, none⟩) c l := HOq.out.same fun j hj => hb3.block j (HOq.out.lt j hj).2
      have hglx : g < be := hgl
      have d0 := hQ3.c0
      have d1 := hQ3.c1
      generalize wr.heap.size = bx at *
      obtain ⟨Y2, hY2⟩ : ∃ Y : ByteArray, Y = ⟨(T ++ lineB popB).toArray⟩ := ⟨_, rfl⟩
      have HY2 := Lib.hid hY2
      have hWr : Calls Tryz.prog 83 #[.agg #[.slice (some ⟨g, 0, none⟩) n c, .string Y], .string ⟨#[112, 111, 112]⟩] W3 fun e w' => e = .returned (.agg #[.slice (some ⟨g, 0, none⟩) n c, .string Y2]) ∧ Below W3.heap.size W3 w' := by
        have h := rwrite_any (some ⟨g, 0, none⟩) n c T ⟨#[112, 111, 112]⟩ W3 (by omega) (by show 3 ≤ _; omega)
        rw [← HY.out] at h
        rw [HY2.out]; exact h
      have HWr := Lib.hid hWr
      have HQ3 := Lib.hid hQ3
      have HB3 := Lib.hid hB3
      have HE3 := Lib.hid hE3
      have HX3 := Lib.hid hx3
      have Hs3 := Lib.hid hs3
      clear hWr hQ3 hB3 hE3 hx3 hb3 hs3 hW3 hY2 HW HP HB HO1 HPq HOq HBq c0 x0 x1
      go_wp2_with fail
      refine HWr.out.mono ?_
      rintro e w4 ⟨rfl, b4⟩
      have hQ4 := HQ3.out.below b4 HQ3.out.lt
      have t0 := hQ4.c0
      have t1 := hQ4.c1
      have t2 := hQ4.fb 0
      have t3 := hQ4.fb 1
      have hx4 := (b4.block bx (by have := Hs3.out; omega)).trans HX3.out
      have hB4 := HB3.out.trans (b4.mono (by have := HQ3.out.lt; omega))
      have hE4 : EtOwn w4 B (some ⟨g, 0, none⟩) c l := HE3.out.same fun j hj => b4.block j (HE3.out.lt j hj).2
      have hsz4 := b4.size
      obtain ⟨w5, hw5⟩ : ∃ w5, w5 = (w4.setCell ⟨be, 0, none⟩ (.slice (some ⟨g, 0, none⟩) n c)).setCell ⟨be, 1, none⟩ (.string Y2) := ⟨_, rfl⟩
      have hQ5 : QB w5 be (.slice (some ⟨g, 0, none⟩) n c) Y2 := by rw [hw5]; exact hQ4.store _ _
      have hx5 : w5.heap[bx]? = some (.cells #[.int .i64 xt, .int .i64 xi] 30 (0, 0)) := by
        rw [hw5, heap_setCell_other _ _ _ _ (by show bx ≠ be; omega), heap_setCell_other _ _ _ _ (by show bx ≠ be; omega)]; exact hx4
      have hB5 : Below be w w5 := by rw [hw5]; exact (hB4.setCell (p := ⟨be, 0, none⟩) (Nat.le_refl _) _).setCell (p := ⟨be, 1, none⟩) (Nat.le_refl _) _
      have hE5 : EtOwn w5 B (some ⟨g, 0, none⟩) c l := by
        rw [hw5]
        exact hE4.same fun j hj => by
          have : j = g := by simpa [Value.ownBlock] using hj.symm
          rw [heap_setCell_other _ _ _ _ (by show j ≠ be; omega), heap_setCell_other _ _ _ _ (by show j ≠ be; omega)]
      have hg5 : g < w5.heap.size := (hE5.lt g rfl).2
      have HQ5 := Lib.hid hQ5
      have HX5 := Lib.hid hx5
      have HB5 := Lib.hid hB5
      have HE5 := Lib.hid hE5
      clear b4 hQ4 hx4 hB4 hE4 hQ5 hx5 hB5 hE5 HQ3 HB3 HE3 HX3 HWr d0 d1
      go_upto_region 12 with fail
      try rw [← hw5]
      clear hw5 t0 t1 t2 t3
      have u0 := HQ5.out.c0
      have hx0 : ∀ w7 : World, w7.heap[bx]? = some (.cells #[.int .i64 xt, .int .i64 xi] 30 (0, 0)) → w7.cell? ⟨bx, 0, none⟩ = some (.int .i64 xt) ∧ w7.cell? ⟨bx, 1, none⟩ = some (.int .i64 xi) := fun w7 h => ⟨by simp [World.cell?, h], by simp [World.cell?, h]⟩
      have hbxl : bx < w5.heap.size := lt_of_block HX5.out
      have hber : be + 2 < w5.heap.size := HQ5.out.lt
      have HC5 : Hid (∀ w6, Below w5.heap.size w5 w6 → w6.cell? ⟨be, 0, none⟩ = some (.slice (some ⟨g, 0, none⟩) n c)) := Lib.hid fun w6 b => (HQ5.out.below b hber).c0
      have HL7 : Hid (∀ (v1 v2 : Value) (w6 w7 : World), w6.ownsRow w5.heap.size 30 2 v1 (0 + k) ([] ++ flat2 (l.take k)) → w5.grownBy w6 (Value.slice none 0 0).ownBlock → (v1 = .slice none 0 0 ↔ Value.slice none 0 0 = .slice none 0 0 ∧ k = 0) →
          w7.ownsRow w5.heap.size 30 2 v2 (0 + k + (n - (k + 1))) ([] ++ flat2 (l.take k) ++ flat2 ((l.drop (k + 1)).take (n - (k + 1)))) → w6.grownBy w7 v1.ownBlock → (v2 = .slice none 0 0 ↔ v1 = .slice none 0 0 ∧ n - (k + 1) = 0) →
          ∃ a2 c2, v2 = .slice a2 (l.eraseIdx k).length c2 ∧ Hid (l.eraseIdx k = [] → a2 = none ∧ c2 = 0) ∧ Hid (EtOwn w7 w5.heap.size a2 c2 (l.eraseIdx k)) ∧ Hid (QB w7 be (.slice (some ⟨g, 0, none⟩) n c) Y2 ∧ Below be w w7) ∧
          w7.cell? ⟨be, 0, none⟩ = some (.slice (some ⟨g, 0, none⟩) n c) ∧ w7.cell? ⟨be, 1, none⟩ = some (.string Y2) ∧ w7.cell? ⟨bx, 0, none⟩ = some (.int .i64 xt) ∧ w7.cell? ⟨bx, 1, none⟩ = some (.int .i64 xi) ∧
          w7.cell? ⟨be + 1, 0, none⟩ = some (.slice none 0 0) ∧ w7.cell? ⟨be + 1, 1, none⟩ = some (.string ⟨#[]⟩) ∧ w7.cell? ⟨be + 2, 0, none⟩ = some (.int .i64 0) ∧ w7.cell? ⟨be + 2, 1, none⟩ = some (.int .i64 0) ∧
          w7.frozen? ⟨be, 0, none⟩ = false ∧ w7.frozen? ⟨be + 1, 0, none⟩ = false ∧ w7.frozen? ⟨be + 1, 1, none⟩ = false ∧ w7.frozen? ⟨be + 2, 0, none⟩ = false ∧ w7.frozen? ⟨be + 2, 1, none⟩ = false) := Lib.hid fun v1 v2 w6 w7 o1 g1 n1 o2 g2 n2 => by
        have hkl2 : k < l.length := by rw [← Hnn.out]; exact hkl
        rw [Hnn.out] at o2 n2
        obtain ⟨a', c', he, hO, hb⟩ := without_post hkl2 o1 g1 o2 g2
        have hv : v2 = .slice a' (l.eraseIdx k).length c' := by injection he
        have hq := HQ5.out.below hb hber
        obtain ⟨y0, y1⟩ := hx0 w7 ((hb.block bx hbxl).trans HX5.out)
        refine ⟨a', c', hv, Lib.hid fun h => ?_, Lib.hid hO, Lib.hid ⟨hq, HB5.out.trans (hb.mono (by omega))⟩, hq.c0, hq.c1, y0, y1, hq.p0, hq.p1, hq.q0, hq.q1, hq.fb 0, hq.f1 0, hq.f1 1, hq.f2 0, hq.f2 1⟩
        have hl1 : (l.eraseIdx k).length = l.length - 1 := List.length_eraseIdx_of_lt hkl2
        rw [h] at hl1
        simp only [List.length_nil] at hl1
        have hv1 : v1 = .slice none 0 0 := n1.2 ⟨rfl, by omega⟩
        have hv2 : v2 = .slice none 0 0 := n2.2 ⟨hv1, by omega⟩
        rw [hv] at hv2
        simp only [Value.slice.injEq] at hv2
        exact ⟨hv2.1, hv2.2.2⟩
      have HL1 := Lib.hid (show (flat2 (l.take k)).length = k * 2 by rw [flat2_length, List.length_take, ← Hnn.out, Nat.min_eq_left (by omega)])
      have HF1 := Lib.hid (show ∀ j u, (flat2 (l.take k))[j]? = some u → w5.cell? ((⟨g, 0, none⟩ : Addr).add j) = some u by
        have := HE5.out.from 0 k (by rw [← Hnn.out]; omega)
        rw [List.drop_zero, Nat.zero_mul] at this
        exact this)
      have HF2 := Lib.hid (HE5.out.from (k + 1) (n - (k + 1)) (by rw [← Hnn.out]; omega))
      have HL2 := Lib.hid (show (flat2 ((l.drop (k + 1)).take (n - (k + 1)))).length = (n - (k + 1)) * 2 by rw [flat2_length, List.length_take, List.length_drop, ← Hnn.out, Nat.min_self])
      have hk1 : (k : Int) + 1 ≤ n := by omega
      have hkc : k ≤ c := by omega
      have n12 : be + 1 ≠ be + 2 := by omega
      have n21 : be + 2 ≠ be + 1 := by omega
      have n10 : be + 1 ≠ be := by omega
      have n20 : be + 2 ≠ be := by omega
      have HFin : Hid (∀ (w7 : World) (a2 : Option Addr) (c2 : Nat) (x y z u v : Value), EtOwn w7 w5.heap.size a2 c2 (l.eraseIdx k) → Below be w w7 →
          EtOwn (((((w7.setCell ⟨be, 0, none⟩ x).setCell ⟨be + 1, 0, none⟩ y).setCell ⟨be + 1, 1, none⟩ z).setCell ⟨be + 2, 0, none⟩ u).setCell ⟨be + 2, 1, none⟩ v).drew w.heap.size a2 c2 (l.eraseIdx k) ∧
          Below w.heap.size w (((((w7.setCell ⟨be, 0, none⟩ x).setCell ⟨be + 1, 0, none⟩ y).setCell ⟨be + 1, 1, none⟩ z).setCell ⟨be + 2, 0, none⟩ u).setCell ⟨be + 2, 1, none⟩ v).drew) := Lib.hid fun w7 a2 c2 x y z u v hO hb => by
        refine ⟨?_, ?_⟩
        · have h1 : EtOwn (((((w7.setCell ⟨be, 0, none⟩ x).setCell ⟨be + 1, 0, none⟩ y).setCell ⟨be + 1, 1, none⟩ z).setCell ⟨be + 2, 0, none⟩ u).setCell ⟨be + 2, 1, none⟩ v).drew w5.heap.size a2 c2 (l.eraseIdx k) := hO.same fun k hk => by
            have := (hO.lt k hk).1
            show (((((w7.setCell ⟨be, 0, none⟩ x).setCell ⟨be + 1, 0, none⟩ y).setCell ⟨be + 1, 1, none⟩ z).setCell ⟨be + 2, 0, none⟩ u).setCell ⟨be + 2, 1, none⟩ v).heap[k]? = _
            rw [heap_setCell_other _ _ _ _ (by show k ≠ be + 2; omega), heap_setCell_other _ _ _ _ (by show k ≠ be + 2; omega), heap_setCell_other _ _ _ _ (by show k ≠ be + 1; omega), heap_setCell_other _ _ _ _ (by show k ≠ be + 1; omega), heap_setCell_other _ _ _ _ (by show k ≠ be; omega)]
          exact h1.mono (by rw [Hbe.out]; omega)
        · rw [Hbe.out]
          exact drewN_below (((((hb.setCell (p := ⟨be, 0, none⟩) (Nat.le_refl _) _).setCell (p := ⟨be + 1, 0, none⟩) (by show be ≤ be + 1; omega) _).setCell (p := ⟨be + 1, 1, none⟩) (by show be ≤ be + 1; omega) _).setCell (p := ⟨be + 2, 0, none⟩) (by show be ≤ be + 2; omega) _).setCell (p := ⟨be + 2, 1, none⟩) (by show be ≤ be + 2; omega) _) 1
      rcases Nat.lt_or_ge (k + 1) c with hc | hc
      · have HC2 : Hid (∀ w1, w5.grownBy w1 (Value.slice none 0 0).ownBlock → ∀ j u, (flat2 ((l.drop (k + 1)).take (n - (k + 1))))[j]? = some u → w1.cell? ((⟨g, (k + 1) * 2, none⟩ : Addr).add j) = some u) := Lib.hid (fun w1 g1 j u hu => by
          have h2 := HF2.out j u hu
          have e3 : (⟨g, (k + 1) * 2, none⟩ : Addr).add j = ⟨g, (k + 1) * 2 + j, none⟩ := by unfold Addr.add; split <;> simp_all
          rw [e3] at h2 ⊢
          exact (World.cell?_of_block (a := ⟨g, (k + 1) * 2 + j, none⟩) (g1.block g hg5 (by simp [Value.ownBlock]))).trans h2)
        go_wp2_with (first | (at_builtin; refine wpList_append_own _ rfl (.tmp 43) (.tmp 47) 22 rfl w5.heap.size 30 i0 (.agg #[.int .i64 0, .int .i64 0]) 2 16 Tryz.underlying22 hi0 hz0 hz1 hz2 rfl (by decide) (.slice none 0 0) 0 [] rfl (World.ownsRow_nil _ _ _ _) ⟨g, 0, none⟩ k c (flat2 (l.take k)) rfl HL1.out HF1.out (one_cells2 _) (by unfold maxLen; omega) (by omega) (Nat.le_refl _) ?_; intro v1 w6 o1 g1 n1; have HO1' := Lib.hid o1; have HG1 := Lib.hid g1; have HN1 := Lib.hid n1; have e0' := HC5.out w6 (grown_below g1 (Nat.le_refl _) (fun k hk => by simp [Value.ownBlock] at hk)); clear o1 g1 n1) | (at_builtin; refine wpList_append_own _ rfl (.tmp 49) (.tmp 54) 22 rfl w5.heap.size 30 i0 (.agg #[.int .i64 0, .int .i64 0]) 2 16 Tryz.underlying22 hi0 hz0 hz1 hz2 rfl (by decide) v1 (0 + k) ([] ++ flat2 (l.take k)) rfl HO1'.out ⟨g, (k + 1) * 2, none⟩ (n - (k + 1)) _ (flat2 ((l.drop (k + 1)).take (n - (k + 1)))) rfl HL2.out (HC2.out w6 HG1.out) (one_cells2 _) (by unfold maxLen; omega) (by omega) HG1.out.size ?_; intro v2 w7 o2 g2 n2; obtain ⟨a2, c2, rfl, hz2', HO7, HQ7, k0, k1, k2, k3, k4, k5, k6, k7, m0, m1, m2, m3, m4⟩ := HL7.out v1 v2 w6 w7 HO1'.out HG1.out HN1.out o2 g2 n2; clear o2 g2 n2))
        go_region
        all_goals
          go_wp2
          (try simp only [Exit.inBlock, Exit.then])
          refine bodyPost_ret (results_cells_tmp rfl _ _ (be + 1) (be + 2) _ _ _ _ _ _ _ _ rfl rfl
            ((heap_setCell_other _ _ _ _ n12).trans ((heap_setCell_other _ _ _ _ n12).trans (heap_setCell_same _ _ _ _ _ _ (heap_setCell_same _ _ _ _ _ _ ((heap_setCell_other _ _ _ _ n10).trans HQ7.out.1.r1)))))
            (heap_setCell_same _ _ _ _ _ _ (heap_setCell_same _ _ _ _ _ _ ((heap_setCell_other _ _ _ _ n21).trans ((heap_setCell_other _ _ _ _ n21).trans ((heap_setCell_other _ _ _ _ n20).trans HQ7.out.1.r2)))))
            Tryz.underlying78 rfl (by kernel_rfl) Tryz.underlying30 rfl (by kernel_rfl)) rfl ?_
          obtain ⟨h1, h2⟩ := HFin.out w7 a2 c2 (.slice a2 (l.eraseIdx k).length c2) (.slice a2 (l.eraseIdx k).length c2) (.string Y2) (.int .i64 xt) (.int .i64 xi) HO7.out HQ7.out.2
          exact ⟨a2, c2, by rw [← HY2.out, ← Hxt.out, ← Hxi.out]; rfl, h1, hz2'.out, h2⟩
      · obtain rfl : c = k + 1 := by omega
        have hle0 : n - (k + 1) = 0 := by omega
        have Hle0 := Lib.hid hle0
        have Hd0 := Lib.hid (show flat2 ((l.drop (k + 1)).take (n - (k + 1))) = [] by rw [hle0]; rfl)
        clear hle0
        go_wp2_with (first | (at_builtin; refine wpList_append_own _ rfl (.tmp 43) (.tmp 47) 22 rfl w5.heap.size 30 i0 (.agg #[.int .i64 0, .int .i64 0]) 2 16 Tryz.underlying22 hi0 hz0 hz1 hz2 rfl (by decide) (.slice none 0 0) 0 [] rfl (World.ownsRow_nil _ _ _ _) ⟨g, 0, none⟩ k (k + 1) (flat2 (l.take k)) rfl HL1.out HF1.out (one_cells2 _) (by unfold maxLen; omega) (by omega) (Nat.le_refl _) ?_; intro v1 w6 o1 g1 n1; have HO1' := Lib.hid o1; have HG1 := Lib.hid g1; have HN1 := Lib.hid n1; have e0' := HC5.out w6 (grown_below g1 (Nat.le_refl _) (fun k hk => by simp [Value.ownBlock] at hk)); clear o1 g1 n1) | (at_builtin; refine wpList_append_own _ rfl (.tmp 49) (.tmp 54) 22 rfl w5.heap.size 30 i0 (.agg #[.int .i64 0, .int .i64 0]) 2 16 Tryz.underlying22 hi0 hz0 hz1 hz2 rfl (by decide) v1 (0 + k) ([] ++ flat2 (l.take k)) rfl HO1'.out ⟨g, 0, none⟩ 0 0 [] rfl rfl (fun j u hu => by cases hu) (by simp) (by unfold maxLen; omega) (by omega) HG1.out.size ?_; intro v2 w7 o2 g2 n2; obtain ⟨a2, c2, rfl, hz2', HO7, HQ7, k0, k1, k2, k3, k4, k5, k6, k7, m0, m1, m2, m3, m4⟩ := HL7.out v1 v2 w6 w7 HO1'.out HG1.out HN1.out (by rw [Hd0.out, Hle0.out]; exact o2) g2 (by rw [Hle0.out]; exact n2); clear o2 g2 n2))
        go_region
        all_goals
          go_wp2
          (try simp only [Exit.inBlock, Exit.then])
          refine bodyPost_ret (results_cells_tmp rfl _ _ (be + 1) (be + 2) _ _ _ _ _ _ _ _ rfl rfl
            ((heap_setCell_other _ _ _ _ n12).trans ((heap_setCell_other _ _ _ _ n12).trans (heap_setCell_same _ _ _ _ _ _ (heap_setCell_same _ _ _ _ _ _ ((heap_setCell_other _ _ _ _ n10).trans HQ7.out.1.r1)))))
            (heap_setCell_same _ _ _ _ _ _ (heap_setCell_same _ _ _ _ _ _ ((heap_setCell_other _ _ _ _ n21).trans ((heap_setCell_other _ _ _ _ n21).trans ((heap_setCell_other _ _ _ _ n20).trans HQ7.out.1.r2)))))
            Tryz.underlying78 rfl (by kernel_rfl) Tryz.underlying30 rfl (by kernel_rfl)) rfl ?_
          obtain ⟨h1, h2⟩ := HFin.out w7 a2 c2 (.slice a2 (l.eraseIdx k).length c2) (.slice a2 (l.eraseIdx k).length c2) (.string Y2) (.int .i64 xt) (.int .i64 xi) HO7.out HQ7.out.2
          exact ⟨a2, c2, by rw [← HY2.out, ← Hxt.out, ← Hxi.out]; rfl, h1, hz2'.out, h2⟩
end Go.Proofs.YtfejlkgddnamoaaGreatDoor
