/- WALKS: book.Push. -/
import Derived.Test.YtfejlkgddnamoaaGreatDoorBkState
import Derived.Test.YtfejlkgddnamoaaGreatDoorBkItems
import Derived.Deep.RegionWith
import Derived.Deep.RegionHeld3
import Derived.Deep.DeepCutAuto
import Derived.StillTailTactics
set_option linter.unusedVariables false
set_option linter.unusedSimpArgs false
namespace Go.Proofs.YtfejlkgddnamoaaGreatDoor
open Go Go.RowKit SimPlain HeapPlain BookPlain

/-- the words of a line -/
def pushB (t id : Int) : List UInt8 := [112, 117, 115, 104, 32] ++ Lib.itoa t ++ [32] ++ Lib.itoa id
def popB : List UInt8 := [112, 111, 112]
theorem lineB_ne (s : List UInt8) : lineB s ≠ [] := by unfold lineB; simp
theorem okE_of {t id : Int} (h : okE ⟨t, id, 0⟩ = true) : -1000000 ≤ t ∧ t ≤ 1000000 ∧ 0 ≤ id ∧ id ≤ 1000000 := by
  have := (okE_iff _).1 h
  simpa [and_assoc] using this
theorem one_EvA {w : World} {g : Nat} {t id : Int} (h : w.heap[g]? = some (.cells #[.int .i64 t, .int .i64 id] 30 (0, 0))) : EvA w (some ⟨g, 0, none⟩) [⟨t, id, 0⟩] := by
  refine .inr ⟨g, 0, rfl, lt_of_block h, fun i hi => ?_⟩
  obtain rfl : i = 0 := by simpa using hi
  exact ⟨by simp [World.cell?, h], by simp [World.cell?, h]⟩
theorem chkI_one {t id : Int} (h : okE ⟨t, id, 0⟩ = true) : chkI [⟨t, id, 0⟩] = 0 := fine_chkI (by simp) (fun e he => by rw [List.mem_singleton] at he; rw [he]; exact h)
theorem chkI_one_bad {t id : Int} (h : okE ⟨t, id, 0⟩ = false) : chkI [⟨t, id, 0⟩] = 1 := by
  unfold chkI
  rw [if_neg (by simp), if_neg]
  simp [h]
set_option maxRecDepth 100000 in
set_option maxHeartbeats 2000000 in
theorem BPush_bad (S B : Nat) (F : Nat → Prop) (q : List Ev) (seq : Int) (T : List UInt8) (t id : Int) (w : World) (hbad : okE ⟨t, id, 0⟩ = false) :
    Calls Tryz.prog 9 #[.pointer (some ⟨S, 0, none⟩), .agg #[.int .i64 t, .int .i64 id]] w fun e w' => e = .returned (.iface 56 (.int .i64 1)) ∧ Below w.heap.size w w' := by
  have hc := chkI_one_bad hbad
  obtain ⟨w1, hw1⟩ : ∃ w1, w1 = (w.alloc (.cells #[.int .i64 t, .int .i64 id] 30)).alloc (.cells #[.int .i64 t, .int .i64 id] 30) := ⟨_, rfl⟩
  have hs : (w.alloc (.cells #[.int .i64 t, .int .i64 id] 30)).heap.size = w.heap.size + 1 := by simp
  have hb : Below w.heap.size w w1 := by rw [hw1]; exact ((Below.refl _ _).alloc (Nat.le_refl _) _).alloc (by rw [hs]; omega) _
  have hblk : w1.heap[w.heap.size + 1]? = some (.cells #[.int .i64 t, .int .i64 id] 30 (0, 0)) := by rw [hw1, ← hs]; exact heap_alloc_new _ _
  have hC := CheckI_any [⟨t, id, 0⟩] (some ⟨w.heap.size + 1, 0, none⟩) 1 w1 (one_EvA hblk) (by simp)
  rw [hc, errV_bad (by decide)] at hC
  simp only [List.length_cons, List.length_nil] at hC
  have HC := Lib.hid hC
  have HB := Lib.hid hb
  clear hC hb hblk hc hbad hs
  go_enter Tryz.func9, Tryz.ntmps9
  go_wp2_with fail
  rw [← hw1]
  refine HC.out.mono ?_
  rintro e w2 ⟨rfl, b2⟩
  have HB2 := Lib.hid (HB.out.trans (b2.mono HB.out.size))
  clear b2 hw1
  go_wp2
  go_ret
  exact ⟨rfl, HB2.out⟩
set_option maxRecDepth 100000 in
set_option maxHeartbeats 2000000 in
theorem BPush_full (S B : Nat) (F : Nat → Prop) (q : List Ev) (seq : Int) (T : List UInt8) (t id : Int) (w : World) (h : BookQ w B S F q seq T) (hok : okE ⟨t, id, 0⟩ = true) (hq : q.length = 60) :
    Calls Tryz.prog 9 #[.pointer (some ⟨S, 0, none⟩), .agg #[.int .i64 t, .int .i64 id]] w fun e w' => e = .returned (.iface 56 (.int .i64 4)) ∧ Below w.heap.size w w' := by
  have hc := chkI_one hok
  obtain ⟨w1, hw1⟩ : ∃ w1, w1 = (w.alloc (.cells #[.int .i64 t, .int .i64 id] 30)).alloc (.cells #[.int .i64 t, .int .i64 id] 30) := ⟨_, rfl⟩
  have hs : (w.alloc (.cells #[.int .i64 t, .int .i64 id] 30)).heap.size = w.heap.size + 1 := by simp
  have hs1 : w1.heap.size = w.heap.size + 2 := by rw [hw1]; simp
  have hb : Below w.heap.size w w1 := by rw [hw1]; exact ((Below.refl _ _).alloc (Nat.le_refl _) _).alloc (by rw [hs]; omega) _
  have hblk : w1.heap[w.heap.size + 1]? = some (.cells #[.int .i64 t, .int .i64 id] 30 (0, 0)) := by rw [hw1, ← hs]; exact heap_alloc_new _ _
  have hbox : w1.heap[w.heap.size]? = some (.cells #[.int .i64 t, .int .i64 id] 30 (0, 0)) := by rw [hw1, Below.heap_alloc _ _ _ (by rw [hs]; omega)]; exact heap_alloc_new _ _
  have hC := CheckI_any [⟨t, id, 0⟩] (some ⟨w.heap.size + 1, 0, none⟩) 1 w1 (one_EvA hblk) (by simp)
  rw [hc, errV_ok] at hC
  simp only [List.length_cons, List.length_nil] at hC
  have HC := Lib.hid hC
  have HB := Lib.hid hb
  have Hs1 := Lib.hid hs1
  have Hbox := Lib.hid hbox
  have Hok := Lib.hid hok
  obtain ⟨H, a, cap, l, p, v, hG⟩ := h
  have HG := Lib.hid hG
  clear hC hb hblk hc hok hs hs1 hbox hG
  have Hq := Lib.hid hq
  clear hq
  go_enter Tryz.func9, Tryz.ntmps9
  go_wp2_with fail
  rw [← hw1]
  refine HC.out.mono ?_
  rintro e w2 ⟨rfl, b2⟩
  have b02 := HB.out.trans (b2.mono HB.out.size)
  have HB2 := Lib.hid b02
  have hG2 := HG.out.only (only_of_below b02 (fun _ => False)) (fun _ _ c => c)
  have c0 := hG2.s.c0
  have hL := Len_any l a cap H B w2 hG2.heap (by rw [hG2.len, Hq.out]; omega)
  rw [hG2.len, Hq.out] at hL
  have HL := Lib.hid hL
  clear b2 hw1 b02 hG2 hL
  go_wp2_with fail
  refine HL.out.mono ?_
  rintro e w3 ⟨rfl, rfl⟩
  go_wp2
  go_ret
  exact ⟨rfl, HB2.out⟩
theorem pushed_post {w W w' : World} {B S : Nat} {F : Nat → Prop} {H : Nat} {a a' : Option Addr} {cap cap' : Nat} {l q l' : List Ev} {seq t id : Int} {p v : Value} {T : List UInt8} (h : BookG w B S F H a cap l q seq p v T) (hB : B ≤ w.heap.size)
    (hS : BkAt W S (.pointer (some ⟨H, 0, none⟩)) (.int .i64 (seq + 1)) p v) (oW : Only w W (fun k => k = S))
    (hp : l'.Perm (⟨t, id, seq + 1⟩ :: l)) (ho : Heap e0 Lt l') (hE : HeapE w' B H a' cap' l') (oP : Only W w' (Touch H a cap l.length)) (hn : ∀ k, (Value.slice a' l'.length cap').ownBlock = some k → (Value.slice a l.length cap).ownBlock = some k ∨ W.heap.size ≤ k) :
    BookQ w' B S (Grow F w w') (ins ⟨t, id, seq + 1⟩ q) (seq + 1) T ∧ Only w w' F := by
  have hqp := ins_perm ⟨t, id, seq + 1⟩ q
  have hsz := oW.size
  have hsz2 := oP.size
  have hSl := h.s.lt
  have hSne : v.ownBlock ≠ some S := h.txt.ne h.s
  have hSb : ¬ Touch H a cap l.length S := fun c => (h.sep S c).1 rfl
  refine ⟨⟨H, a', cap', l', p, v, hE, ho, hp.trans ((h.perm.cons _).trans hqp.symm), ins_sorted h.sorted fun x hx => ?_, fun e he => ?_, ?_, h.pp, h.txt.same fun k hk => ?_, h.tn, fun k hk => ?_, fun k hk => ?_, .inl h.fs, fun k hk => .inl (h.fv k hk), fun k hk => ?_⟩, ?_⟩
  · have := h.top x hx
    show x.s < seq + 1; omega
  · rcases List.mem_cons.1 (hqp.mem_iff.1 he) with c | c
    · rw [c]; exact Int.le_refl _
    · have := h.top e c; omega
  · exact (oP.block S (by omega) hSb).trans hS
  · have hk1 := (h.txt.lt k hk).2
    refine (oP.block k (by omega) (fun c => (h.sep k c).2 hk)).trans (oW.block k hk1 (fun c => hSne (by rw [← c]; exact hk)))
  · rcases hk with hk | hk
    · exact h.sep k (.inl hk)
    · rcases hn k hk with c | c
      · exact h.sep k (.inr c)
      · refine ⟨by omega, fun d => ?_⟩
        have := (h.txt.lt k d).2; omega
  · rcases hk with hk | hk
    · exact .inl (h.foot k (.inl hk))
    · rcases hn k hk with c | c
      · exact .inl (h.foot k (.inr c))
      · exact .inr ⟨by omega, (hE.row.lt k hk).2⟩
  · rcases hk with hk | hk
    · have := h.fb k hk; omega
    · omega
  · exact (oW.mono (own' := F) (fun k _ c => by rw [c]; exact h.fs)).trans oP (fun k _ c => h.foot k c)
/-- what a push that goes through leaves -/
def PushedRes (S B : Nat) (F : Nat → Prop) (q : List Ev) (seq : Int) (T : List UInt8) (t id : Int) (w : World) (e : Ending) (w' : World) : Prop :=
  e = .returned .nilIface ∧ BookQ w' B S (Grow F w w') (ins ⟨t, id, seq + 1⟩ q) (seq + 1) (T ++ lineB (pushB t id)) ∧ Only w w' F
set_option maxRecDepth 100000 in
set_option maxHeartbeats 4000000 in
theorem BPush_ok (S B : Nat) (F : Nat → Prop) (q : List Ev) (seq : Int) (T : List UInt8) (t id : Int) (w : World) (h : BookQ w B S F q seq T) (hok : okE ⟨t, id, 0⟩ = true) (hq : q.length < 60) (hB : B ≤ w.heap.size) (htab : Tab w)
    (hTl : T.length ≤ 200000000) (hsq : -2000000 ≤ seq ∧ seq ≤ 2000000) (hpB : 3 < B) :
    Calls Tryz.prog 9 #[.pointer (some ⟨S, 0, none⟩), .agg #[.int .i64 t, .int .i64 id]] w fun e w' => PushedRes S B F q seq T t id w e w' := by
  obtain ⟨t0, t1, d0, d1⟩ := okE_of hok
  have hc := chkI_one hok
  obtain ⟨w1, hw1⟩ : ∃ w1, w1 = (w.alloc (.cells #[.int .i64 t, .int .i64 id] 30)).alloc (.cells #[.int .i64 t, .int .i64 id] 30) := ⟨_, rfl⟩
  have hs : (w.alloc (.cells #[.int .i64 t, .int .i64 id] 30)).heap.size = w.heap.size + 1 := by simp
  have hs1 : w1.heap.size = w.heap.size + 2 := by rw [hw1]; simp
  have hb : Below w.heap.size w w1 := by rw [hw1]; exact ((Below.refl _ _).alloc (Nat.le_refl _) _).alloc (by rw [hs]; omega) _
  have hblk : w1.heap[w.heap.size + 1]? = some (.cells #[.int .i64 t, .int .i64 id] 30 (0, 0)) := by rw [hw1, ← hs]; exact heap_alloc_new _ _
  have hbox : w1.heap[w.heap.size]? = some (.cells #[.int .i64 t, .int .i64 id] 30 (0, 0)) := by rw [hw1, Below.heap_alloc _ _ _ (by rw [hs]; omega)]; exact heap_alloc_new _ _
  have hC := CheckI_any [⟨t, id, 0⟩] (some ⟨w.heap.size + 1, 0, none⟩) 1 w1 (one_EvA hblk) (by simp)
  rw [hc, errV_ok] at hC
  simp only [List.length_cons, List.length_nil] at hC
  have HC := Lib.hid hC
  have HB := Lib.hid hb
  have Hs1 := Lib.hid hs1
  have Hbox := Lib.hid hbox
  have Hok := Lib.hid hok
  obtain ⟨H, a, cap, l, p, v, hG⟩ := h
  have HG := Lib.hid hG
  clear hC hb hblk hc hok hs hs1 hbox hG
  have Htab := Lib.hid htab
  clear htab
  obtain ⟨sq0, sq1⟩ := hsq
  have hqI : ((q.length : Int) == 60) = false := by rw [beq_eq_false_iff_ne]; omega
  obtain ⟨N1, hN1⟩ : ∃ N, N = Lib.itoa t := ⟨_, rfl⟩
  obtain ⟨N2, hN2⟩ : ∃ N, N = Lib.itoa id := ⟨_, rfl⟩
  have hl1 : N1.length ≤ 21 := by rw [hN1]; exact itoa_len _ (by omega) (by omega)
  have hl2 : N2.length ≤ 21 := by rw [hN2]; exact itoa_len _ (by omega) (by omega)
  have HN1 := Lib.hid hN1
  have HN2 := Lib.hid hN2
  obtain ⟨X1, e1, z1⟩ := mk_list ([112, 117, 115, 104, 32] ++ N1)
  obtain ⟨X2, e2, z2⟩ := mk_list (X1.data.toList ++ [32])
  obtain ⟨X3, e3, z3⟩ := mk_list (X2.data.toList ++ N2)
  have hx1 : X1.data.toList.length = X1.size := (Lib.size_eq X1).symm
  have hx2 : X2.data.toList.length = X2.size := (Lib.size_eq X2).symm
  have s1 : X1.size = 5 + N1.length := by rw [z1, List.length_append]; rfl
  have s2 : X2.size = X1.size + 1 := by rw [z2, List.length_append, hx1]; rfl
  have s3 : X3.size = X2.size + N2.length := by rw [z3, List.length_append, hx2]
  have r1 := cat_run (P := Tryz.prog) ⟨#[112, 117, 115, 104, 32]⟩ ⟨N1.toArray⟩ X1 (by rw [e1]) (by rw [mk_size N1]; show 5 + _ ≤ _; omega)
  have r2 := cat_run (P := Tryz.prog) X1 ⟨#[32]⟩ X2 (by rw [e2]) (by show _ + 1 ≤ _; omega)
  have r3 := cat_run (P := Tryz.prog) X2 ⟨N2.toArray⟩ X3 (by rw [e3]) (by rw [mk_size N2]; omega)
  have HX := Lib.hid (show X3.data.toList = pushB t id by rw [e3, e2, e1, hN1, hN2]; unfold pushB; simp)
  have hX3 : X3.size ≤ 1000 := by omega
  clear e1 e2 e3 z1 z2 z3 hx1 hx2 s1 s2 s3 hN1 hN2
  go_enter Tryz.func9, Tryz.ntmps9
  go_wp2_with fail
  rw [← hw1]
  refine HC.out.mono ?_
  rintro e w2 ⟨rfl, b2⟩
  have b02 := HB.out.trans (b2.mono HB.out.size)
  have HB2 := Lib.hid b02
  have hG2 := HG.out.only (only_of_below b02 (fun _ => False)) (fun _ _ c => c)
  have c0 := hG2.s.c0
  have hL := Len_any l a cap H B w2 hG2.heap (by rw [hG2.len]; omega)
  rw [hG2.len] at hL
  have HL := Lib.hid hL
  have hbox2 := (b2.block w.heap.size (by have := Hs1.out; omega)).trans Hbox.out
  have HG2 := Lib.hid hG2
  have HT2 := Lib.hid (Htab.out.to b02)
  have Hbox2 := Lib.hid hbox2
  have hsz2 := b02.size
  clear b2 hw1 b02 hG2 hL hbox2
  go_wp2_with fail
  refine HL.out.mono ?_
  rintro e w3 ⟨rfl, rfl⟩
  generalize hbx : w.heap.size = bx at Hbox2 ⊢
  have Hbx := Lib.hid hbx
  have hbl := lt_of_block Hbox2.out
  have x0 : w2.cell? ⟨bx, 0, none⟩ = some (.int .i64 t) := by have := Hbox2.out; simp [World.cell?, this]
  have x1 : w2.cell? ⟨bx, 1, none⟩ = some (.int .i64 id) := by have := Hbox2.out; simp [World.cell?, this]
  clear hbx
  go_upto_region 6 with fail
  have HIt : Hid (∀ W, Only w2 W (fun _ => False) → ∀ n : Int, -1000000 ≤ n → n ≤ 1000000 → Calls Tryz.prog 23 #[.int .i64 n] W fun e w' => e = .returned (.string ⟨(Lib.itoa n).toArray⟩) ∧ Only w2 w' (fun _ => False) ∧ w'.cell? ⟨bx, 0, none⟩ = some (.int .i64 t) ∧ w'.cell? ⟨bx, 1, none⟩ = some (.int .i64 id)) := Lib.hid fun W o n g0 g1 => by
    refine (Itoa_any n (by omega) (by omega) W (HT2.out.only o (fun c => c))).mono ?_
    rintro e w' ⟨he, hb⟩
    have o2 := o.trans (only_of_below hb (fun _ => False)) (fun _ _ c => c)
    have := (o2.block bx hbl (fun c => c)).trans Hbox2.out
    exact ⟨he, o2, by simp [World.cell?, this], by simp [World.cell?, this]⟩
  have HWr : Hid (∀ W, Only w2 W (fun _ => False) → Calls Tryz.prog 22 #[.pointer (some ⟨S, 0, none⟩), .string X3] W fun e w' => e = .returned (.tuple #[]) ∧
      ∃ v', BookG w' B S (Grow F w w') H a cap l q seq (.pointer (some ⟨S, 2, none⟩)) v' (T ++ lineB (pushB t id)) ∧ Only w w' F ∧ w'.heap[bx]? = some (.cells #[.int .i64 t, .int .i64 id] 30 (0, 0))) := Lib.hid fun W o => by
    have o0 : Only w W (fun _ => False) := (only_of_below HB2.out _).trans o (fun _ _ c => c)
    have hG3 := HG2.out.only o (fun _ _ c => c)
    refine (write_any S B _ _ p v T X3 W hG3.s hG3.pp hG3.txt (by omega) (by omega) (Nat.le_trans hB o0.size) (HT2.out.only o (fun c => c))).mono ?_
    rintro e w' ⟨rfl, v', A, tx, oo, fr⟩
    rw [HX.out] at tx
    obtain ⟨g1, g2⟩ := hG3.wrote (Nat.le_trans hB o0.size) A tx oo fr (lineB_ne _)
    have hF : ∀ k, F k → k < w.heap.size := fun k hk => (HG.out.fb k hk).2
    refine ⟨rfl, v', ?_, (o0.mono (fun _ _ c => c.elim)).trans g2 (fun _ _ c => c), ?_⟩
    · have e : Grow F w w' = Grow (Grow F w W) W w' := (Grow.trans o0.size g2.size).symm
      exact ⟨g1.heap, g1.ord, g1.perm, g1.sorted, g1.top, g1.s, g1.pp, g1.txt, g1.tn, g1.sep, fun k hk => (g1.foot k hk).imp_right (fun c => by have := o0.size; omega), (g1.fs).imp_right (fun c => by have := o0.size; omega), fun k hk => (g1.fv k hk).imp_right (fun c => by have := o0.size; omega), fun k hk => by
        rcases hk with hk | hk
        · have := HG.out.fb k hk; have := o0.size; have := g2.size; omega
        · omega⟩
    · refine (oo.block bx (by have := o.size; omega) (fun c => ?_)).trans ((o.block bx hbl (fun c => c)).trans Hbox2.out)
      rcases c with c | c
      · have := hF S HG.out.fs; have := Hbx.out; omega
      · have := hF bx (HG.out.fv bx c); have := Hbx.out; omega
  rw [HN1.out] at r1
  rw [HN2.out] at r3
  go_cut [4] (fun s4 wx => s4 = .nilIface ∧ ∃ v', BookG wx B S (Grow F w wx) H a cap l q seq (.pointer (some ⟨S, 2, none⟩)) v' (T ++ lineB (pushB t id)) ∧ Only w wx F ∧ wx.heap[bx]? = some (.cells #[.int .i64 t, .int .i64 id] 30 (0, 0)))
  case first =>
    go_region_with (first
      | (go_at_call_of 23 (Value.int IntKind.i64 t); refine (HIt.out _ ((Only.refl w2 _).drewN 1) t t0 t1).mono ?_; rintro e w4 ⟨rfl, o4, k0, k1⟩; have HO4 := Lib.hid o4; clear o4)
      | (go_at_call_of 23 (Value.int IntKind.i64 id); refine (HIt.out _ HO4.out id (by omega) d1).mono ?_; rintro e w5 ⟨rfl, o5, k2, k3⟩; have HO5 := Lib.hid o5; clear o5)
      | (go_at_call 22; refine (HWr.out _ HO5.out).mono ?_; rintro e w6 ⟨rfl, hw6⟩; have HW6 := Lib.hid hw6; clear hw6))
    all_goals
      go_wp2_with fail
      go_meet
      exact ⟨rfl, HW6.out⟩
  case rest =>
    obtain ⟨rfl, v', hG4, hO4, hbox4⟩ := hcut
    have c0 := hG4.s.c0
    have c1 := hG4.s.c1
    have f1 := hG4.s.free 1
    have hSl4 := hG4.s.lt
    have hbl4 := lt_of_block hbox4
    have hSbx : bx ≠ S := fun e => by
      have h1 := (HG.out.fb S HG.out.fs).2
      have := Hbx.out; omega
    obtain ⟨W, hW⟩ : ∃ W, W = wc.setCell ⟨S, 1, none⟩ (.int .i64 (seq + 1)) := ⟨_, rfl⟩
    have hS8 : BkAt W S (.pointer (some ⟨H, 0, none⟩)) (.int .i64 (seq + 1)) (.pointer (some ⟨S, 2, none⟩)) v' := by rw [hW]; exact hG4.s.set1 _
    have oW : Only wc W (fun k => k = S) := by rw [hW]; exact Only.setCell wc ⟨S, 1, none⟩ _ _ rfl
    have hbox8 := (oW.block bx hbl4 hSbx).trans hbox4
    have y0 : W.cell? ⟨bx, 0, none⟩ = some (.int .i64 t) := by simp [World.cell?, hbox8]
    have y1 : W.cell? ⟨bx, 1, none⟩ = some (.int .i64 id) := by simp [World.cell?, hbox8]
    have d0 := hS8.c0
    have d1 := hS8.c1
    have hBc : B ≤ wc.heap.size := by have := hO4.size; omega
    have hE8 : HeapE W B H a cap l := hG4.heap.only (oW.mono fun k _ c c' => (hG4.sep k c').1 c)
    have HE8 := Lib.hid hE8
    have HG4 := Lib.hid hG4
    have HO4 := Lib.hid hO4
    have HS8 := Lib.hid hS8
    have HOW := Lib.hid oW
    have hll := hG4.len
    have Hll := Lib.hid hll
    clear hG4 hO4 hbox4 hS8 oW hbox8 hE8 hll x0 x1 r1 r2 r3
    go_upto_region 8 with fail
    rw [← hW]
    clear hW
    go_still_tail 10, (by kernel_rfl)
    change wpList _ _ _ _ _ W.drew
    go_wp2_with fail
    refine (Push_any l ⟨t, id, seq + 1⟩ a cap H B W.drew (HE8.out.drewN 1) (by have := Hll.out; omega) (by have := HOW.out.size; show B ≤ W.heap.size; omega) HG4.out.ord).mono ?_
    rintro e w9 ⟨rfl, a', cap', l', hp, ho, hE, oP, hn⟩
    have hres := pushed_post HG4.out hBc HS8.out HOW.out hp ho hE ((Only.refl W (Touch H a cap l.length)).drewN 1 |>.trans oP (fun _ _ c => c)) hn
    have hfin : PushedRes S B F q seq T t id w (.returned .nilIface) w9 := by
      obtain ⟨g1, g2⟩ := hres
      refine ⟨rfl, ?_, HO4.out.trans g2 (fun k hk c => c.resolve_right (fun d => by omega))⟩
      rw [Grow.trans HO4.out.size g2.size] at g1
      exact g1
    have HFin := Lib.hid hfin
    clear hp ho hE oP hn hres hfin
    go_wp2
    go_ret
    exact HFin.out
end Go.Proofs.YtfejlkgddnamoaaGreatDoor
