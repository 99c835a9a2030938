/- WALKS: what a desk does: push, pop, many, crash. -/
import Derived.Test.YtfejlkgddnamoaaGreatDoorBkOpen
import Derived.Test.YtfejlkgddnamoaaGreatDoorDeskPlain
import Derived.Test.YtfejlkgddnamoaaGreatDoorErrA
import Derived.Deep.RegionHeld3
import Derived.Deep.RegionWith
set_option linter.unusedVariables false
set_option linter.unusedSimpArgs false
namespace Go.Proofs.YtfejlkgddnamoaaGreatDoor
open Go Go.RowKit SimPlain HeapPlain BookPlain NumPlain SpPlain LinesPlain

/-- a desk and its book -/
structure DeskS (w : World) (B0 D : Nat) (F : Nat → Prop) (st : St) : Prop where
  book : ∃ B S, B0 ≤ B ∧ B ≤ w.heap.size ∧ BookQ w B S F st.q st.seq st.T ∧ w.heap[D]? = some (.cells #[.pointer (some ⟨S, 0, none⟩)] 72 (0, 0))
  out : ¬ F D
  low : B0 ≤ D
theorem Inv.bookS {w : World} {B S : Nat} {F : Nat → Prop} {st : St} {j : Nat} (h : Inv st j) (hq : BookQ w B S F st.q st.seq st.T) : BookS w B S F st j := by
  obtain ⟨b1, b2, b3, b4⟩ := h.bounds
  exact ⟨hq, b1, b2, b3, by omega⟩
theorem DeskS.lt {w : World} {B0 D : Nat} {F : Nat → Prop} {st : St} (h : DeskS w B0 D F st) : D < w.heap.size := by
  obtain ⟨B, S, _, _, _, hd⟩ := h.book
  exact lt_of_block hd
theorem DeskS.foot {w : World} {B0 D : Nat} {F : Nat → Prop} {st : St} (h : DeskS w B0 D F st) : ∀ k, F k → B0 ≤ k ∧ k < w.heap.size := fun k hk => by
  obtain ⟨B, S, h1, _, h3, _⟩ := h.book
  have := h3.fb k hk
  omega
theorem DeskS.only {w w' : World} {B0 D : Nat} {F own : Nat → Prop} {st : St} (h : DeskS w B0 D F st) (o : Only w w' own) (hF : ∀ k, F k → ¬ own k) (hD : ¬ own D) : DeskS w' B0 D F st := by
  obtain ⟨B, S, h1, h2, h3, h4⟩ := h.book
  exact ⟨⟨B, S, h1, Nat.le_trans h2 o.size, h3.only o hF, (o.block D (lt_of_block h4) hD).trans h4⟩, h.out, h.low⟩
/-- what is told: an answer, or what is wrong -/
def Told (err : Value) (out : ByteArray) (ans : List UInt8) : Prop :=
  (err = .nilIface ∧ out = ⟨ans.toArray⟩) ∨ (∃ c, err = .iface 56 (.int .i64 c) ∧ ans = called c) ∨ (∃ p, err = .iface 184 p ∧ ans = badB)
def DoRes (B0 D : Nat) (F : Nat → Prop) (r : St × List UInt8) (w : World) (e : Ending) (w' : World) : Prop :=
  ∃ out err F', e = .returned (.tuple #[.string out, err]) ∧ DeskS w' B0 D F' r.1 ∧ (∀ k, F' k → F k ∨ (w.heap.size ≤ k ∧ k < w'.heap.size)) ∧ Only w w' (fun k => F k ∨ k = D) ∧ Told err out r.2
theorem do_stay {w w' : World} {B0 D : Nat} {F : Nat → Prop} {st : St} {ans : List UInt8} {out : ByteArray} {err : Value} {e : Ending} (h : DeskS w B0 D F st) (b : Below w.heap.size w w') (he : e = .returned (.tuple #[.string out, err])) (ht : Told err out ans) : DoRes B0 D F (st, ans) w e w' :=
  ⟨out, err, F, he, h.only (only_of_below b (fun _ => False)) (fun _ _ c => c) (fun c => c), fun k hk => .inl hk, only_of_below b _, ht⟩
theorem do_on {w w' : World} {B0 B D S : Nat} {F : Nat → Prop} {st : St} {ans : List UInt8} {out : ByteArray} {err : Value} {e : Ending} (hD : ¬ F D) (hBD : B0 ≤ D) (hB : B0 ≤ B) (hBw : B ≤ w.heap.size) (hd : w.heap[D]? = some (.cells #[.pointer (some ⟨S, 0, none⟩)] 72 (0, 0)))
    (hq : BookQ w' B S (Grow F w w') st.q st.seq st.T) (o : Only w w' F) (he : e = .returned (.tuple #[.string out, err])) (ht : Told err out ans) : DoRes B0 D F (st, ans) w e w' := by
  have hlt := lt_of_block hd
  refine ⟨out, err, Grow F w w', he, ⟨⟨B, S, hB, Nat.le_trans hBw o.size, hq, (o.block D hlt hD).trans hd⟩, fun c => ?_, hBD⟩, fun k hk => hk, o.mono fun _ _ c => .inl c, ht⟩
  rcases c with c | c
  · exact hD c
  · omega
theorem Env.below {w w' : World} {B : Nat} (h : Env w) (hb : Below B w w') (hB : 9 ≤ B) : Env w' := by
  obtain ⟨tab, mx, syn, rng, big⟩ := h
  refine ⟨tab.below hb (by omega), ?_, ?_, ?_, Nat.le_trans big hb.size⟩
  · obtain ⟨m, hm⟩ := mx
    exact ⟨m, (hb.cell (p := ⟨si_laysM146_ren.g 1, 0, none⟩) (Nat.lt_of_lt_of_le (by decide) hB)).trans hm⟩
  · obtain ⟨tp, p, h1⟩ := syn
    exact ⟨tp, p, var?_below hb (g := 4) (by kernel_rfl) (by omega) h1⟩
  · obtain ⟨tp, p, h1⟩ := rng
    exact ⟨tp, p, var?_below hb (g := 5) (by kernel_rfl) (by omega) h1⟩
theorem grow_drew (F : Nat → Prop) (w w' : World) (n : Nat) : Grow F (w.drewN n) w' = Grow F w w' := rfl
set_option maxRecDepth 100000 in
set_option maxHeartbeats 2000000 in
theorem DeskS.push {w : World} {B0 D : Nat} {F : Nat → Prop} {st : St} {j : Nat} (h : DeskS w B0 D F st) (inv : Inv st j) (hj : j ≤ 5000) (hB0 : 3 < B0) (ht : Tab w) (g off cap : Nat) (k id : Int)
    (c0 : w.cell? ⟨g, off, none⟩ = some (.int .i64 k)) (c1 : w.cell? ⟨g, off + 1, none⟩ = some (.int .i64 id)) :
    Calls Tryz.prog 77 #[.pointer (some ⟨D, 0, none⟩), .slice (some ⟨g, off, none⟩) 2 cap] w fun e w' => DoRes B0 D F (pushA st k id) w e w' := by
  obtain ⟨B, S, hB, hBw, hq, hd⟩ := h.book
  have hqd : BookQ w.drew B S F st.q st.seq st.T := hq.only ((Only.refl w (fun _ => False)).drewN 1) (fun _ _ c => c)
  have HP := Lib.hid ((inv.bookS hqd).push_any (by omega) hBw (by omega) (ht.to ((Below.refl w.heap.size w).drew)) k id)
  have d0 : w.drew.cell? ⟨D, 0, none⟩ = some (.pointer (some ⟨S, 0, none⟩)) := by unfold World.cell?; rw [show w.drew.heap[D]? = _ from hd]; rfl
  have c0' : w.drew.cell? ⟨g, off, none⟩ = some (.int .i64 k) := c0
  have c1' : w.drew.cell? ⟨g, off + 1, none⟩ = some (.int .i64 id) := c1
  obtain ⟨code, hcode⟩ : ∃ c, c = pcode st ⟨k, id, 0⟩ := ⟨_, rfl⟩
  rw [← hcode] at HP
  have HC := Lib.hid hcode
  have HD := Lib.hid h.out
  have hBD := h.low
  have Hd := Lib.hid hd
  clear h inv hq hqd hd ht c0 c1 hcode
  go_enter Tryz.func77, Tryz.ntmps77
  go_wp2_with fail
  go_region_with (go_at_call 9; refine HP.out.mono ?_; rintro e w1 ⟨rfl, hS1, o1⟩; have HS1 := Lib.hid hS1; have HO1 := Lib.hid o1; clear hS1 o1)
  all_goals
    have o1 : Only w w1 F := ((Only.refl w F).drewN 1).trans HO1.out (fun _ _ c => c)
    have HO := Lib.hid o1
    clear o1
    by_cases hc : code = 0
    · have hp : Hid (pushA st k id = (pushS st ⟨k, id, 0⟩, okB)) := Lib.hid (by unfold pushA; rw [if_pos (by rw [← HC.out]; exact hc)])
      rw [hc, errV_ok]
      clear hc
      go_wp2
      go_ret2
      rw [hp.out]
      exact do_on HD.out hBD hB hBw Hd.out HS1.out.book HO.out rfl (.inl ⟨rfl, rfl⟩)
    · have hne : pushS st ⟨k, id, 0⟩ = st := by
        have h0 := HC.out
        unfold pcode at h0
        unfold pushS
        by_cases hok : okE ⟨k, id, 0⟩ = true
        · rw [if_pos hok] at h0 ⊢
          by_cases h60 : st.q.length < 60
          · rw [if_pos h60] at h0; exact absurd h0 hc
          · rw [if_neg h60]
        · rw [if_neg hok]
      have hp : Hid (pushA st k id = (st, called code)) := Lib.hid (by unfold pushA; rw [if_neg (by rw [← HC.out]; exact hc), HC.out])
      have hb := HS1.out.book
      rw [hne] at hb
      have HB := Lib.hid hb
      rw [errV_bad hc]
      clear hc hne hb
      go_wp2
      go_ret2
      rw [hp.out]
      exact do_on HD.out hBD hB hBw Hd.out HB.out HO.out rfl (.inr (.inl ⟨_, rfl, rfl⟩))
set_option maxRecDepth 100000 in
set_option maxHeartbeats 2000000 in
theorem DeskS.many {w : World} {B0 D : Nat} {F : Nat → Prop} {st : St} {j : Nat} (h : DeskS w B0 D F st) (inv : Inv st j) (hj : j ≤ 5000) (ht : Tab w) (lv : Value) :
    Calls Tryz.prog 79 #[.pointer (some ⟨D, 0, none⟩), lv] w fun e w' => DoRes B0 D F (st, Lib.itoa (st.q.length : Nat)) w e w' := by
  obtain ⟨B, S, hB, hBw, hq, hd⟩ := h.book
  obtain ⟨b1, b2, b3, b4⟩ := inv.bounds
  have HM := Lib.hid (BMany_any S B F _ _ _ w hq b1)
  have HI := Lib.hid (Itoa_any (st.q.length : Nat) (by omega) (by omega) w ht)
  have d0 : w.cell? ⟨D, 0, none⟩ = some (.pointer (some ⟨S, 0, none⟩)) := by unfold World.cell?; rw [hd]; rfl
  have HH := Lib.hid h
  obtain ⟨N, hN⟩ : ∃ N : Nat, N = st.q.length := ⟨_, rfl⟩
  rw [← hN] at HM HI ⊢
  clear h inv hq hd ht hN
  go_enter Tryz.func79, Tryz.ntmps79
  go_wp2_with fail
  refine HM.out.mono ?_
  rintro e w1 ⟨rfl, rfl⟩
  go_wp2_with fail
  refine HI.out.mono ?_
  rintro e w2 ⟨rfl, hb⟩
  have HB := Lib.hid hb
  clear hb
  go_wp2
  go_ret2
  exact do_stay HH.out HB.out rfl (.inl ⟨rfl, rfl⟩)
set_option maxRecDepth 100000 in
set_option maxHeartbeats 4000000 in
theorem DeskS.pop {w : World} {B0 D : Nat} {F : Nat → Prop} {st : St} {j : Nat} (h : DeskS w B0 D F st) (inv : Inv st j) (hj : j ≤ 5000) (hB0 : 3 < B0) (ht : Tab w) (lv : Value) :
    Calls Tryz.prog 78 #[.pointer (some ⟨D, 0, none⟩), lv] w fun e w' => DoRes B0 D F (popA st) w e w' := by
  obtain ⟨B, S, hB, hBw, hq, hd⟩ := h.book
  obtain ⟨b1, b2, b3, b4⟩ := inv.bounds
  have hfit := inv.fits
  have d0 : w.cell? ⟨D, 0, none⟩ = some (.pointer (some ⟨S, 0, none⟩)) := by unfold World.cell?; rw [hd]; rfl
  have HD := Lib.hid h.out
  have hBD := h.low
  have Hd := Lib.hid hd
  have hT : ∀ W, Only w W F → Tab W := fun W o => ht.only o (fun c => by have := (hq.fb _ c).1; omega)
  have HT := Lib.hid hT
  -- whatever comes first: two numbers, and the same end
  have key : ∀ (key id : Int) (err : Value) (st' : St) (ans : List UInt8), -1000000 ≤ key → key ≤ 1000000 → 0 ≤ id → id ≤ 1000000 →
      Calls Tryz.prog 14 #[.pointer (some ⟨S, 0, none⟩)] w (fun e w' => e = .returned (.tuple #[.agg #[.int .i64 key, .int .i64 id], err]) ∧ BookQ w' B S (Grow F w w') st'.q st'.seq st'.T ∧ Only w w' F) →
      Told err ⟨(Lib.itoa key ++ 32 :: Lib.itoa id).toArray⟩ ans →
      Calls Tryz.prog 78 #[.pointer (some ⟨D, 0, none⟩), lv] w fun e w' => DoRes B0 D F (st', ans) w e w' := by
    intro key id err st' ans k0 k1 i0 i1 hP htold
    have HP := Lib.hid hP
    have HTold := Lib.hid htold
    obtain ⟨K, hK⟩ : ∃ K : ByteArray, K = ⟨(Lib.itoa key).toArray⟩ := ⟨_, rfl⟩
    obtain ⟨I, hI⟩ : ∃ I : ByteArray, I = ⟨(Lib.itoa id).toArray⟩ := ⟨_, rfl⟩
    have hKl := itoa_len key (by omega) (by omega)
    have hIl := itoa_len id (by omega) (by omega)
    have hKs : K.size = (Lib.itoa key).length := by rw [hK]; exact mk_size _
    have hIs : I.size = (Lib.itoa id).length := by rw [hI]; exact mk_size _
    have hKd : K.data.toList = Lib.itoa key := by rw [hK]
    have hId : I.data.toList = Lib.itoa id := by rw [hI]
    obtain ⟨X1, e1, z1⟩ := mk_list (K.data.toList ++ [32])
    obtain ⟨X2, e2, z2⟩ := mk_list (X1.data.toList ++ I.data.toList)
    have s1 : X1.size = K.size + 1 := by rw [z1, List.length_append, ← Lib.size_eq]; rfl
    have r1 := cat_run (P := Tryz.prog) K ⟨#[32]⟩ X1 (by rw [e1]) (by show _ + 1 ≤ _; omega)
    have r2 := cat_run (P := Tryz.prog) X1 I X2 (by rw [e2]) (by omega)
    have hX2 : X2 = ⟨(Lib.itoa key ++ 32 :: Lib.itoa id).toArray⟩ := by
      apply ByteArray.ext; apply Array.toList_inj.1
      rw [e2, e1, hKd, hId]; simp
    rw [← hX2] at HTold
    have HK : Hid (∀ W, Tab W → Calls Tryz.prog 23 #[.int .i64 key] W fun e w' => e = .returned (.string K) ∧ Below W.heap.size W w') := Lib.hid fun W t => by rw [hK]; exact Itoa_any key (by omega) (by omega) W t
    have HI : Hid (∀ W, Tab W → Calls Tryz.prog 23 #[.int .i64 id] W fun e w' => e = .returned (.string I) ∧ Below W.heap.size W w') := Lib.hid fun W t => by rw [hI]; exact Itoa_any id (by omega) (by omega) W t
    clear hP htold hK hI hKl hIl hKs hIs hKd hId e1 e2 z1 z2 s1 hX2 k0 k1 i0 i1
    clear h inv hq hd ht hT hfit
    go_enter Tryz.func78, Tryz.ntmps78
    go_wp2_with fail
    refine HP.out.mono ?_
    rintro e w1 ⟨rfl, hq1, o1⟩
    have HQ1 := Lib.hid hq1
    have HO1 := Lib.hid o1
    have hT1 := HT.out w1 o1
    clear hq1 o1
    go_upto_region 2 with fail
    obtain ⟨w2, hw2⟩ : ∃ w2, w2 = w1.alloc (.cells #[.int .i64 key, .int .i64 id] 30) := ⟨_, rfl⟩
    obtain ⟨b, hb⟩ : ∃ b, b = w1.heap.size := ⟨_, rfl⟩
    rw [← hw2, ← hb]
    have hbx : w2.heap[b]? = some (.cells #[.int .i64 key, .int .i64 id] 30 (0, 0)) := by rw [hw2, hb]; exact heap_alloc_new _ _
    have hb12 : Below w1.heap.size w1 w2 := by rw [hw2]; exact (Below.refl _ _).alloc (Nat.le_refl _) _
    have Hbx := Lib.hid hbx
    have Hb12 := Lib.hid hb12
    have HT2 : Hid (∀ W, Below w2.heap.size w2 W → Tab W ∧ W.cell? ⟨b, 0, none⟩ = some (.int .i64 key) ∧ W.cell? ⟨b, 1, none⟩ = some (.int .i64 id)) := Lib.hid fun W bb => by
      have x : W.heap[b]? = _ := (bb.block b (lt_of_block hbx)).trans hbx
      exact ⟨(hT1.to hb12).to bb, by simp [World.cell?, x], by simp [World.cell?, x]⟩
    have fin : Hid (∀ W, Below w2.heap.size w2 W → DoRes B0 D F (st', ans) w (.returned (.tuple #[.string X2, err])) W) := Lib.hid fun W bb => by
      have b1W : Below w1.heap.size w1 W := hb12.trans (bb.mono hb12.size)
      have hBQ : BookQ W B S (Grow F w W) st'.q st'.seq st'.T := by
        have h := (HQ1.out.only (only_of_below b1W (fun _ => False)) (fun _ _ c => c)).grow w1 (Nat.le_trans hBw HO1.out.size)
        rw [Grow.trans HO1.out.size b1W.size] at h
        exact h
      exact do_on HD.out hBD hB hBw Hd.out hBQ (HO1.out.trans (only_of_below b1W F) (fun _ _ c => c)) rfl HTold.out
    clear hbx hb12 hw2 hb hT1 d0
    have q0 : w2.cell? ⟨b, 0, none⟩ = some (.int .i64 key) := (HT2.out w2 (Below.refl _ _)).2.1
    have q1 : w2.cell? ⟨b, 1, none⟩ = some (.int .i64 id) := (HT2.out w2 (Below.refl _ _)).2.2
    have HK2 : Hid (∀ W, Below w2.heap.size w2 W → Calls Tryz.prog 23 #[.int .i64 key] W fun e w' => e = .returned (.string K) ∧ Below w2.heap.size w2 w' ∧ w'.cell? ⟨b, 0, none⟩ = some (.int .i64 key) ∧ w'.cell? ⟨b, 1, none⟩ = some (.int .i64 id)) := Lib.hid fun W bb => by
      refine (HK.out W (HT2.out W bb).1).mono ?_
      rintro e w' ⟨he, hb⟩
      have b3 := bb.trans (hb.mono bb.size)
      exact ⟨he, b3, (HT2.out w' b3).2⟩
    have HI2 : Hid (∀ W, Below w2.heap.size w2 W → Calls Tryz.prog 23 #[.int .i64 id] W fun e w' => e = .returned (.string I) ∧ Below w2.heap.size w2 w' ∧ w'.cell? ⟨b, 0, none⟩ = some (.int .i64 key) ∧ w'.cell? ⟨b, 1, none⟩ = some (.int .i64 id)) := Lib.hid fun W bb => by
      refine (HI.out W (HT2.out W bb).1).mono ?_
      rintro e w' ⟨he, hb⟩
      have b3 := bb.trans (hb.mono bb.size)
      exact ⟨he, b3, (HT2.out w' b3).2⟩
    clear HT2 HK HI
    go_region_with (first
      | (go_at_call_of 23 (Value.int IntKind.i64 key); refine (HK2.out _ ((Below.refl w2.heap.size w2).drew)).mono ?_; rintro e w4 ⟨rfl, b4, k0, k1⟩; have HB4 := Lib.hid b4; clear b4)
      | (go_at_call_of 23 (Value.int IntKind.i64 id); refine (HI2.out _ HB4.out).mono ?_; rintro e w5 ⟨rfl, b5, k2, k3⟩; have HB5 := Lib.hid b5; clear b5))
    all_goals
      go_wp2
      go_ret2
      exact fin.out _ HB5.out
  obtain ⟨q, seq, T⟩ := st
  cases q with
  | nil =>
    refine key 0 0 (.iface 56 (.int .i64 5)) ⟨[], seq, T⟩ (called 5) (by omega) (by omega) (by omega) (by omega) ?_ (.inr (.inl ⟨5, rfl, rfl⟩))
    refine (BPop_none S B F seq T w hq).mono ?_
    rintro e w' ⟨rfl, b⟩
    exact ⟨rfl, (hq.only (only_of_below b (fun _ => False)) (fun _ _ c => c)).grow w hBw, only_of_below b F⟩
  | cons x q =>
    obtain ⟨t0, t1, d0', d1'⟩ := okE_of (hfit x (by simp))
    refine key x.t x.id .nilIface ⟨q, seq, T ++ lineB popB⟩ _ t0 t1 d0' d1' ?_ (.inl ⟨rfl, rfl⟩)
    exact BPop_some S B F x q seq T w hq (by simp at b1; omega) hBw ht (by have b4' : T.length ≤ 90 * j := b4; omega)
theorem Inv.grown {st : St} {j : Nat} (h : Inv st j) (n : Nat) : (openP st0 (linesOf (st.T.take n))).2.2 = 0 ∧ Inv (openP st0 (linesOf (st.T.take n))).1 j := ⟨(h.crash n).1, (h.crash n).2.1⟩
set_option maxRecDepth 100000 in
set_option maxHeartbeats 4000000 in
theorem DeskS.crash {w : World} {B0 D : Nat} {F : Nat → Prop} {st : St} {j : Nat} (h : DeskS w B0 D F st) (inv : Inv st j) (hj : j ≤ 5000) (hB0 : 9 ≤ B0) (env : Env w) (hbad : ∃ p, w.cell? ⟨1, 0, none⟩ = some (.iface 184 p)) (g off cap : Nat) (n : Int)
    (n0 : -9223372036854775808 ≤ n) (n1 : n ≤ 9223372036854775807) (c0 : w.cell? ⟨g, off, none⟩ = some (.int .i64 n)) (hgF : ¬ F g) (hgD : g ≠ D) :
    Calls Tryz.prog 80 #[.pointer (some ⟨D, 0, none⟩), .slice (some ⟨g, off, none⟩) 1 cap] w fun e w' => DoRes B0 D F (crashP st n) w e w' := by
  obtain ⟨B, S, hB, hBw, hq, hd⟩ := h.book
  obtain ⟨p, hp⟩ := hbad
  have HH := Lib.hid h
  rcases Int.lt_or_le n 0 with hn | hn
  · have hc : Hid (crashP st n = (st, badB)) := Lib.hid (by unfold crashP; rw [if_pos hn])
    have hp' : w.drew.cell? ⟨1, 0, none⟩ = some (.iface 184 p) := hp
    clear h inv hq hd env hB hBw
    go_enter Tryz.func80, Tryz.ntmps80
    go_wp2_with fail
    go_quiet (fail)
    go_wp2
    go_ret2
    rw [hc.out]
    exact do_stay HH.out (below_drewN (Below.refl _ _) _) rfl (.inr (.inr ⟨p, rfl, rfl⟩))
  · obtain ⟨k, rfl⟩ : ∃ k : Nat, n = k := ⟨n.toNat, by omega⟩
    obtain ⟨b1, b2, b3, b4⟩ := inv.bounds
    obtain ⟨r1, r2, r3, r4⟩ := inv.crash k
    obtain ⟨r, hr⟩ : ∃ r, r = openP st0 (linesOf (st.T.take k)) := ⟨_, rfl⟩
    have hc : Hid (crashP st (k : Int) = (r.1, foundB ++ Lib.itoa (r.2.1 : Nat))) := Lib.hid (by
      unfold crashP
      rw [if_neg (by omega), Int.toNat_natCast, if_pos r1, hr])
    have HTx := Lib.hid (BText_any S B F _ _ _ w hq)
    obtain ⟨Y, hY⟩ : ∃ Y : ByteArray, Y = ⟨st.T.toArray⟩ := ⟨_, rfl⟩
    have hYs : Y.size = st.T.length := by rw [hY]; exact mk_size _
    rw [← hY] at HTx
    have hslow : ∀ W, Only w W F → Below B0 w W := fun W o => o.below (by have := hBw; omega) (fun k c => by have := (hq.fb k c).1; omega)
    have HEnv : Hid (∀ W, Only w W F → Env W) := Lib.hid fun W o => by
      have hb := o.below (B := B0) (by omega) (fun k c => by have := (hq.fb k c).1; omega)
      exact env.below hb hB0
    have d0 : w.cell? ⟨D, 0, none⟩ = some (.pointer (some ⟨S, 0, none⟩)) := by unfold World.cell?; rw [hd]; rfl
    have hcut : ∀ m : Nat, m ≤ Y.size → (⟨(st.T.take m).toArray⟩ : ByteArray) = Y.extract 0 m := fun m _ => by
      apply ByteArray.ext; apply Array.toList_inj.1
      rw [Lib.extract_data, hY]; simp
    obtain ⟨m, hm, hmin⟩ : ∃ m : Nat, m ≤ Y.size ∧ (m = k ∧ k ≤ Y.size ∨ m = Y.size ∧ Y.size < k) := by
      rcases Nat.lt_or_ge Y.size k with c | c
      · exact ⟨_, Nat.le_refl _, .inr ⟨rfl, c⟩⟩
      · exact ⟨k, c, .inl ⟨rfl, c⟩⟩
    have htk : st.T.take k = st.T.take m := by
      rcases hmin with ⟨e, _⟩ | ⟨e, c⟩
      · rw [e]
      · rw [e, hYs, List.take_length, List.take_of_length_le (by omega)]
    have HOpen : Hid (∀ W, Only w W F → Calls Tryz.prog 11 #[.string (Y.extract 0 m)] W fun e w' => OpenRes (st.T.take k) W e w') := Lib.hid fun W o => by
      have h := Open_any (st.T.take m) W (HEnv.out W o) (by rw [List.length_take]; omega) (by rw [← htk]; omega)
      rw [hcut m hm] at h
      rw [htk]; exact h
    have HRInv : Hid (Inv r.1 j) := Lib.hid (by rw [hr]; exact r2)
    have hr21 : r.2.1 ≤ 5000 := by rw [hr]; omega
    have HR1 : Hid (r.2.2 = 0) := Lib.hid (by rw [hr]; exact r1)
    have HR := Lib.hid hr
    obtain ⟨R, hR⟩ : ∃ R : ByteArray, R = ⟨(Lib.itoa (r.2.1 : Nat)).toArray⟩ := ⟨_, rfl⟩
    obtain ⟨many, hmany⟩ : ∃ m, m = r.2.1 := ⟨_, rfl⟩
    rw [← hmany] at hr21 hR
    have hRl := itoa_len (many : Nat) (by omega) (by omega)
    have hRs : R.size = (Lib.itoa (many : Nat)).length := by rw [hR]; exact mk_size _
    have hRd : R.data.toList = Lib.itoa (many : Nat) := by rw [hR]
    obtain ⟨X1, e1, z1⟩ := mk_list (foundB ++ R.data.toList)
    have cat := cat_run (P := Tryz.prog) ⟨#[102, 111, 117, 110, 100, 32]⟩ R X1 (by rw [e1]; rfl) (by show 6 + _ ≤ _; omega)
    have HX1 : Hid (X1 = ⟨(foundB ++ Lib.itoa (many : Nat)).toArray⟩) := Lib.hid (by apply ByteArray.ext; apply Array.toList_inj.1; rw [e1, hRd])
    have HI : Hid (∀ W, Tab W → Calls Tryz.prog 23 #[.int .i64 (many : Nat)] W fun e w' => e = .returned (.string R) ∧ Below W.heap.size W w') := Lib.hid fun W t => by rw [hR]; exact Itoa_any _ (by omega) (by omega) W t
    have HMany := Lib.hid hmany
    have Hd := Lib.hid hd
    have HFoot : Hid (∀ k, F k → k < w.heap.size) := Lib.hid fun k hk => (hq.fb k hk).2
    have HOut := Lib.hid h.out
    have HgF := Lib.hid hgF
    have hYb : Y.size ≤ 500000 := by omega
    clear h inv hq hd env hslow hY hYs hcut htk r1 r2 r3 r4 hr hR hRl hRs hRd e1 z1 hmany b1 b2 b3 b4
    go_enter Tryz.func80, Tryz.ntmps80
    go_wp2_with fail
    refine HTx.out.mono ?_
    rintro e w1 ⟨rfl, hq1, o1⟩
    have HO1 := Lib.hid o1
    have hgl : g < w.heap.size := World.block_lt_of_cell? w _ c0
    have c1 : w1.cell? ⟨g, off, none⟩ = some (.int .i64 k) := (World.cell?_of_block (a := ⟨g, off, none⟩) (o1.block g hgl HgF.out)).trans c0
    have hmk : min (k : Int) (Y.size : Int) = (m : Int) := by rcases hmin with ⟨e, c⟩ | ⟨e, c⟩ <;> omega
    have hm0 : (0 : Int) ≤ (m : Int) := by omega
    have hmY : (m : Int) ≤ (Y.size : Int) := by omega
    clear hq1 o1 c0 d0
    go_wp2_with fail
    refine (HOpen.out w1 HO1.out).mono ?_
    rintro e w2 ⟨hb2, hres⟩
    rw [← HR.out] at hres
    rw [HR1.out, ← HMany.out] at hres
    rcases hres with ⟨-, S2, F2, i2, B2, hi2, hB2, hB2w, rfl, hS2⟩ | ⟨hne, -⟩
    · have hB0w : B0 ≤ w.heap.size := Nat.le_trans hB hBw
      have o2 : Only w w2 F := HO1.out.trans (only_of_below hb2 F) (fun _ _ c => c)
      have hDw : D < w.heap.size := lt_of_block Hd.out
      have hd2 : w2.heap[D]? = some (.cells #[.pointer (some ⟨S, 0, none⟩)] 72 (0, 0)) := (o2.block D hDw HOut.out).trans Hd.out
      have d2 : w2.cell? ⟨D, 0, none⟩ = some (.pointer (some ⟨S, 0, none⟩)) := by unfold World.cell?; rw [hd2]; rfl
      have f2 : w2.frozen? ⟨D, 0, none⟩ = false := by unfold World.frozen?; rw [hd2]; rfl
      obtain ⟨w3, hw3⟩ : ∃ w3, w3 = w2.setCell ⟨D, 0, none⟩ (.pointer (some ⟨S2, 0, none⟩)) := ⟨_, rfl⟩
      have hd3 : w3.heap[D]? = some (.cells #[.pointer (some ⟨S2, 0, none⟩)] 72 (0, 0)) := by rw [hw3]; exact Lib.heap_setCell_same hd2 _
      have o3 : Only w2 w3 (fun k => k = D) := by rw [hw3]; exact Only.setCell _ _ _ _ rfl
      have hF2 : ∀ k, F2 k → w.heap.size ≤ k ∧ k < w2.heap.size := fun k hk => by
        have := hS2.book.fb k hk
        have := HO1.out.size
        omega
      have o13 : Only w w3 (fun k => F k ∨ k = D) := (o2.mono fun _ _ c => .inl c).trans o3 (fun _ _ c => .inr c)
      have hq3 : BookQ w3 B2 S2 F2 r.1.q r.1.seq r.1.T := hS2.book.only o3 (fun k hk c => by have := hF2 k hk; omega)
      have HT3 : Hid (Tab w3) := Lib.hid ((HEnv.out w2 o2).tab.only o3 (fun c => by have := HH.out.low; omega))
      have fin : Hid (∀ W, Below w3.heap.size w3 W → DoRes B0 D F (crashP st (k : Int)) w (.returned (.tuple #[.string X1, .nilIface])) W) := Lib.hid fun W bb => by
        rw [hc.out]
        have o4 := only_of_below bb (fun _ => False)
        refine ⟨X1, .nilIface, F2, rfl, ⟨⟨B2, S2, by have := HO1.out.size; omega, Nat.le_trans hB2w (Nat.le_trans o3.size o4.size), hq3.only o4 (fun _ _ c => c), (o4.block D (lt_of_block hd3) (fun c => c)).trans hd3⟩, fun c => ?_, HH.out.low⟩, fun k hk => .inr ?_, o13.trans (only_of_below bb _) (fun _ _ c => c), .inl ⟨rfl, by rw [HX1.out, HMany.out]⟩⟩
        · have := hF2 D c; omega
        · have h1 := hF2 k hk
          have h2 := o3.size
          have h3 := o4.size
          omega
      clear hb2 o2 hd2 hd3 o3 hF2 o13 hq3 hi2 hB2 hB2w hS2 c1
      go_upto_region 8 with fail
      rw [← hw3]
      clear hw3
      go_wp2_with fail
      refine (HI.out w3 HT3.out).mono ?_
      rintro e w4 ⟨rfl, hb4⟩
      have HB4 := Lib.hid hb4
      clear hb4
      go_wp2
      go_ret2
      exact fin.out _ HB4.out
    · exact absurd rfl hne
end Go.Proofs.YtfejlkgddnamoaaGreatDoor
