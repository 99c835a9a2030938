/- WALK: the law BookAgain. -/
import Derived.Test.YtalnepcbaegaeaaDoorBkPair
import Derived.Test.YtalnepcbaegaeaaDoorBkFact
import Derived.WalkSmall
set_option linter.unusedVariables false
set_option linter.unusedSimpArgs false
namespace Go.Proofs.YtalnepcbaegaeaaDoor
open Go Go.RowKit SimPlain HeapPlain BookPlain NumPlain SpPlain LinesPlain

set_option maxRecDepth 100000 in
set_option maxHeartbeats 4000000 in
theorem BookAgain_walk (l : List Ev) (a0 : Option Addr) (cap0 : Nat) (key id : Int) (w : World) (hx : EvA w a0 l) (hl : l.length ≤ 9223372036854775807) (env : Env w) :
    Calls Tryd.prog 6 #[.slice a0 l.length cap0, .agg #[.int .i64 key, .int .i64 id]] w fun e w' => e = .returned (.bool true) ∧ Below w.heap.size w w' := by
  obtain ⟨w0, hw0⟩ : ∃ w0, w0 = w.alloc (.cells #[.int .i64 key, .int .i64 id] 28) := ⟨_, rfl⟩
  have hbx : w0.heap[w.heap.size]? = some (.cells #[.int .i64 key, .int .i64 id] 28 (0, 0)) := by rw [hw0]; exact heap_alloc_new _ _
  have hb0 : Below w.heap.size w w0 := by rw [hw0]; exact (Below.refl _ _).alloc (Nat.le_refl _) _
  have hs0 : w.heap.size < w0.heap.size := by rw [hw0]; simp
  have HBx := Lib.hid hbx
  have HB0 := Lib.hid hb0
  have HEnv := Lib.hid (env.to hb0)
  have HFact := Lib.hid (bookFact_any w0 (env.to hb0).tab)
  obtain ⟨N, hN⟩ : ∃ N, N = l.length := ⟨_, rfl⟩
  have HTold : Hid (∀ W, Below w0.heap.size w0 W → Calls Tryd.prog 19 #[.slice a0 N cap0] W fun e w' => ∃ S F i, e = .returned (.pointer (some ⟨S, 0, none⟩)) ∧ i ≤ 140 ∧ (i = l.length ∨ i = 140) ∧ BookS w' W.heap.size S F (toldB (l.take i)) i ∧ Below W.heap.size W w') := Lib.hid fun W b => by
    rw [hN]; exact told_any l a0 cap0 W ((hx.below hb0).below b) hl ((env.to hb0).to b).tab
  rw [← hN] at hl ⊢
  have fin : Hid (∀ W, Below w0.heap.size w0 W → Below w.heap.size w W) := Lib.hid fun W b => hb0.trans (b.mono hb0.size)
  clear hx hN hbx hb0 env
  go_enter Tryd.func6, Tryd.ntmps6
  go_wp2_with fail
  rw [← hw0]
  clear hw0
  refine HFact.out.mono ?_
  rintro e w1 ⟨rfl, hb1⟩
  have HB1 := Lib.hid hb1
  clear hb1
  go_wp2_with fail
  refine (HTold.out w1 HB1.out).mono ?_
  rintro e w2 ⟨S, F, i, rfl, hi, -, hS, hb2⟩
  have hlog := told_open (l.take i)
  have hlen : (l.take i).length ≤ 140 := by rw [List.length_take]; omega
  generalize hst : toldB (l.take i) = st at hS hlog
  clear hst
  obtain ⟨hop, hll⟩ := hlog
  have HOp := Lib.hid hop
  have HLl : Hid ((linesOf st.T).length ≤ 140) := Lib.hid (by omega)
  have hb02 : Below w0.heap.size w0 w2 := HB1.out.trans (hb2.mono HB1.out.size)
  have HTx := Lib.hid (told_txt hS (by omega))
  have HB1s := HB1.out.size
  have hS2 := hS.upto (show i ≤ 500 by omega)
  have HSz : Hid (w1.heap.size ≤ w2.heap.size) := Lib.hid hb2.size
  have HB2 := Lib.hid hb02
  have HS2 := Lib.hid hS2
  have HText := Lib.hid (BText_any S w1.heap.size F st.q st.seq st.T w2 hS2.book)
  clear hop hll hlen hb02 hb2 hS hS2 HB1s hi
  go_wp2_with fail
  refine HText.out.mono ?_
  rintro e w3 ⟨rfl, hq3, o3⟩
  have hb3 : Below w0.heap.size w0 w3 := HB2.out.trans (o3.below HB2.out.size (fun k c => by have := (HS2.out.book.fb k c).1; have := HB1.out.size; omega))
  have HB3 := Lib.hid hb3
  have HQ3 := Lib.hid hq3
  have HO3 := Lib.hid o3
  have HOpen := Lib.hid (Open_any st.T w3 (HEnv.out.to hb3) (by have := HTx.out; omega) (by have := HLl.out; omega))
  clear hq3 o3 hb3
  go_wp2_with fail
  refine HOpen.out.mono ?_
  rintro e w4 ⟨hb4, hres⟩
  rw [HOp.out] at hres
  rcases hres with ⟨-, So, Fo, io, Bo, hio, hBo, hBo2, rfl, hSo⟩ | ⟨hne, -⟩
  · have hP : Pair w0 w4 So st 500 S st 500 := by
      have hsz := HSz.out
      have h1 := HB1.out.size
      have h3 := HO3.out.size
      have h4 := hb4.size
      have hb : BookS w4 w1.heap.size S F st 500 := BookS.only ⟨HQ3.out, HS2.out.many, HS2.out.lo, HS2.out.hi, HS2.out.txt⟩ (only_of_below hb4 (fun _ => False)) (fun _ _ c => c)
      refine ⟨⟨Bo, Fo, w1.heap.size, F, hSo.upto (by have := HLl.out; omega), hb, fun k c d => ?_, by have := HB3.out.size; omega, hBo2, by omega, by omega⟩, HB3.out.trans (hb4.mono HB3.out.size)⟩
      have := (hSo.book.fb k c).1
      have := (HQ3.out.fb k d).2
      omega
    obtain ⟨nl, hnl⟩ : ∃ nl, nl = (logOf st0 (l.take i)).length := ⟨_, rfl⟩
    rw [← hnl]
    have HP := Lib.hid hP
    clear hP hSo hb4 hBo hBo2 hio hnl
    have HT1 := Lib.hid HP.out.text1
    obtain ⟨Y, hY⟩ : ∃ Y : ByteArray, Y = ⟨st.T.toArray⟩ := ⟨_, rfl⟩
    rw [← hY] at HT1
    have HY := Lib.hid hY
    clear hY
    go_wp2_with fail
    refine HT1.out.mono ?_
    rintro e w5 ⟨rfl, hP5⟩
    have HT2 : Hid (Calls Tryd.prog 14 #[.pointer (some ⟨S, 0, none⟩)] w5 fun e w' => e = .returned (.string Y) ∧ Pair w0 w' S st 500 So st 500) := Lib.hid (by rw [HY.out]; exact hP5.swap.text1)
    clear hP5
    go_wp2_with fail
    refine HT2.out.mono ?_
    rintro e w6 ⟨rfl, hP6⟩
    have HP6 := Lib.hid hP6
    have h60 : st.q.length ≤ 60 := HS2.out.many
    obtain ⟨n, hn⟩ : ∃ n, n = st.q.length := ⟨_, rfl⟩
    have HM1 : Hid (Calls Tryd.prog 13 #[.pointer (some ⟨So, 0, none⟩)] w6 fun e w' => e = .returned (.int .i64 n) ∧ w6 = w') := Lib.hid (by rw [hn]; exact hP6.swap.many1)
    have HM2 : Hid (Calls Tryd.prog 13 #[.pointer (some ⟨S, 0, none⟩)] w6 fun e w' => e = .returned (.int .i64 n) ∧ w6 = w') := Lib.hid (by rw [hn]; exact hP6.many1)
    have hbx6 := (hP6.low.block w.heap.size hs0).trans HBx.out
    have c0 : w6.cell? ⟨w.heap.size, 0, none⟩ = some (.int .i64 key) := by simp [World.cell?, hbx6]
    have c1 : w6.cell? ⟨w.heap.size, 1, none⟩ = some (.int .i64 id) := by simp [World.cell?, hbx6]
    have HPu := Lib.hid (hP6.push1 HEnv.out (by omega) key id)
    obtain ⟨st', hst'⟩ : ∃ s', s' = pushS st ⟨key, id, 0⟩ := ⟨_, rfl⟩
    obtain ⟨code, hcode⟩ : ∃ c, c = pcode st ⟨key, id, 0⟩ := ⟨_, rfl⟩
    rw [← hst', ← hcode] at HPu
    have HSt' := Lib.hid hst'
    have HCode := Lib.hid hcode
    clear hP6 hn hst' hcode hbx6 h60
    go_wp2_with fail
    refine HM1.out.mono ?_
    rintro e w7 ⟨rfl, rfl⟩
    go_wp2_with fail
    refine HM2.out.mono ?_
    rintro e w7 ⟨rfl, rfl⟩
    go_wp2_with fail
    refine HPu.out.mono ?_
    rintro e w7 ⟨rfl, hP7⟩
    have HPv : Hid (Calls Tryd.prog 12 #[.pointer (some ⟨So, 0, none⟩), .agg #[.int .i64 key, .int .i64 id]] w7 fun e w' => e = .returned (errV 64 code) ∧ Pair w0 w' So st' 501 S st' 501) := Lib.hid (by
      rw [HSt'.out, HCode.out]
      have h := hP7.swap.push1 HEnv.out (by omega) key id
      rw [HSt'.out] at h
      exact h)
    have hbx7 := (hP7.low.block w.heap.size hs0).trans HBx.out
    have d0 : w7.cell? ⟨w.heap.size, 0, none⟩ = some (.int .i64 key) := by simp [World.cell?, hbx7]
    have d1 : w7.cell? ⟨w.heap.size, 1, none⟩ = some (.int .i64 id) := by simp [World.cell?, hbx7]
    clear hP7 hbx7 c0 c1
    go_wp2_with fail
    refine HPv.out.mono ?_
    rintro e w8 ⟨rfl, hP8⟩
    have HP8 : Hid (∀ W, Below w8.heap.size w8 W → Pair w0 W So st' 501 S st' 501) := Lib.hid fun W b => hP8.below b
    have h60 : st'.q.length ≤ 60 := by obtain ⟨⟨_, _, _, _, h1, _⟩, _⟩ := hP8; exact h1.many
    obtain ⟨Y', hY'⟩ : ∃ Y : ByteArray, Y = ⟨st'.T.toArray⟩ := ⟨_, rfl⟩
    obtain ⟨n', hn'⟩ : ∃ n, n = st'.q.length := ⟨_, rfl⟩
    have K1 : Hid (∀ W, Pair w0 W So st' 501 S st' 501 → Calls Tryd.prog 14 #[.pointer (some ⟨So, 0, none⟩)] W fun e w' => e = .returned (.string Y') ∧ Pair w0 w' So st' 501 S st' 501) := Lib.hid fun W h => by rw [hY']; exact h.text1
    have K2 : Hid (∀ W, Pair w0 W So st' 501 S st' 501 → Calls Tryd.prog 14 #[.pointer (some ⟨S, 0, none⟩)] W fun e w' => e = .returned (.string Y') ∧ Pair w0 w' So st' 501 S st' 501) := Lib.hid fun W h => by
      rw [hY']; exact h.swap.text1.mono fun e w' h => ⟨h.1, h.2.swap⟩
    have K3 : Hid (∀ W, Pair w0 W So st' 501 S st' 501 → Calls Tryd.prog 18 #[.pointer (some ⟨So, 0, none⟩)] W fun e w' => ∃ a c, e = .returned (.slice a n' c) ∧ PairD w0 w' S st' 501 a st'.q) := Lib.hid fun W h => by
      rw [hn']; exact h.drain1 HEnv.out (by omega)
    have K4 : Hid (∀ W a, PairD w0 W S st' 501 a st'.q → Calls Tryd.prog 18 #[.pointer (some ⟨S, 0, none⟩)] W fun e w' => ∃ a' c', e = .returned (.slice a' n' c') ∧ EvA w' a st'.q ∧ EvA w' a' st'.q ∧ Below w0.heap.size w0 w') := Lib.hid fun W a h => by
      rw [hn']; exact h.drain2 HEnv.out (by omega)
    have K5 : Hid (∀ W a a' c c', EvA W a st'.q → EvA W a' st'.q → Calls Tryd.prog 17 #[.slice a n' c, .slice a' n' c'] W fun e w' => e = .returned (.bool true) ∧ ∃ k, w' = W.drewN k) := Lib.hid fun W a a' c c' h h' => by
      rw [hn']; exact pair_items st'.q a a' c c' W (by omega) h h'
    clear hP8 d0 d1 h60 hY' hn'
    obtain ⟨v, hv, hv2⟩ : ∃ v, v = errV 64 code ∧ (v = .nilIface ∨ v = .iface 64 (.int .i64 code)) := by
      refine ⟨_, rfl, ?_⟩
      by_cases hc : code = 0
      · left; rw [hc, errV_ok]
      · right; rw [errV_bad hc]
    rw [← hv]
    clear hv
    rcases hv2 with rfl | rfl
    all_goals
      go_wp2_with fail
      refine wp_region_any (by kernel_rfl) ?_
      try (change wpAny _ _ _ _ _ _ _ (World.drew _))
      refine wpAny_take (i := 0) (v := ?_) rfl (by kernel_rfl) (by kernel_rfl) (by kernel_rfl) (fun _ _ _ h => h) (Or.inl ⟨by kernel_rfl, ?_⟩) ?_
      rotate_left
      · (intro w; go_simp; try with_reducible rfl)
      refine wpAny_take (i := 1) (v := ?_) rfl (by kernel_rfl) (by kernel_rfl) (by kernel_rfl) (fun _ _ _ h => h) (Or.inl ⟨by kernel_rfl, ?_⟩) ?_
      rotate_left
      · (intro w; go_simp; try with_reducible rfl)
      refine wpAny_take (i := 2) (v := ?_) rfl (by kernel_rfl) (by kernel_rfl) (by kernel_rfl) (fun _ _ _ h => h) (Or.inl ⟨by kernel_rfl, ?_⟩) ?_
      rotate_left
      · (intro w; go_simp; try with_reducible rfl)
      refine wpAny_take (i := 3) (v := ?_) rfl (by kernel_rfl) (by kernel_rfl) (by kernel_rfl) (fun _ _ _ h => h) (Or.inl ⟨by kernel_rfl, ?_⟩) ?_
      rotate_left
      · (intro w; go_simp; try with_reducible rfl)
      refine wpAny_take (i := 4) (v := ?_) rfl (by kernel_rfl) (by kernel_rfl) (by kernel_rfl) (fun _ _ _ h => h) (Or.inl ⟨by kernel_rfl, ?_⟩) ?_
      rotate_left
      · (intro w; go_simp; try with_reducible rfl)
      refine wpAny_take (i := 5) (v := ?_) rfl (by kernel_rfl) (by kernel_rfl) (by kernel_rfl) (fun _ _ _ h => h) (Or.inl ⟨by kernel_rfl, ?_⟩) ?_
      rotate_left
      · (intro w; go_simp; try with_reducible rfl)
      refine wpAny_take (i := 6) (v := ?_) rfl (by kernel_rfl) (by kernel_rfl) (by kernel_rfl) (fun _ _ _ h => h) (Or.inl ⟨by kernel_rfl, ?_⟩) ?_
      rotate_left
      · (intro w; go_simp; try with_reducible rfl)
      refine wpAny_take (i := 8) (v := ?_) rfl (by kernel_rfl) (by kernel_rfl) (by kernel_rfl) (fun _ _ _ h => h) (Or.inl ⟨by kernel_rfl, ?_⟩) ?_
      rotate_left
      · (intro w; go_simp; try with_reducible rfl)
      refine wpAny_ready (rs := [7]) (by kernel_rfl) (by simp) ?_
      refine AllReady.cons rfl (fun K hK => ?_) AllReady.nil
      go_simp
      go_wp2_with fail
      refine (K1.out _ (HP8.out _ (below_drewN (Below.refl _ _) 1))).mono ?_
      rintro e w9 ⟨rfl, hP9⟩
      have HP9 := Lib.hid hP9
      clear hP9
      go_wp2_with fail
      refine wpAny_ready (rs := [9]) (by kernel_rfl) (by simp) ?_
      refine AllReady.cons rfl (fun K hK => ?_) AllReady.nil
      go_simp
      go_wp2_with fail
      refine (K2.out _ HP9.out).mono ?_
      rintro e w10 ⟨rfl, hP10⟩
      have HP10 := Lib.hid hP10
      clear hP10
      go_wp2_with fail
      refine wpAny_take (i := 10) (v := ?_) rfl (by kernel_rfl) (by kernel_rfl) (by kernel_rfl) (fun _ _ _ h => h) (Or.inl ⟨by kernel_rfl, ?_⟩) ?_
      rotate_left
      · (intro w; go_simp; try with_reducible rfl)
      refine wpAny_take (i := 11) (v := ?_) rfl (by kernel_rfl) (by kernel_rfl) (by kernel_rfl) (fun _ _ _ h => h) (Or.inl ⟨by kernel_rfl, ?_⟩) ?_
      rotate_left
      · (intro w; go_simp; try with_reducible rfl)
      refine wpAny_take (i := 12) (v := ?_) rfl (by kernel_rfl) (by kernel_rfl) (by kernel_rfl) (fun _ _ _ h => h) (Or.inl ⟨by kernel_rfl, ?_⟩) ?_
      rotate_left
      · (intro w; go_simp; try with_reducible rfl)
      refine wpAny_take (i := 13) (v := ?_) rfl (by kernel_rfl) (by kernel_rfl) (by kernel_rfl) (fun _ _ _ h => h) (Or.inl ⟨by kernel_rfl, ?_⟩) ?_
      rotate_left
      · (intro w; go_simp; try with_reducible rfl)
      refine wpAny_take (i := 15) (v := ?_) rfl (by kernel_rfl) (by kernel_rfl) (by kernel_rfl) (fun _ _ _ h => h) (Or.inl ⟨by kernel_rfl, ?_⟩) ?_
      rotate_left
      · (intro w; go_simp; try with_reducible rfl)
      refine wpAny_ready (rs := [14]) (by kernel_rfl) (by simp) ?_
      refine AllReady.cons rfl (fun K hK => ?_) AllReady.nil
      go_simp
      go_wp2_with fail
      refine (K3.out _ HP10.out).mono ?_
      rintro e w11 ⟨a1, c1, rfl, hP11⟩
      have HP11 := Lib.hid hP11
      clear hP11
      go_wp2_with fail
      refine wpAny_ready (rs := [16]) (by kernel_rfl) (by simp) ?_
      refine AllReady.cons rfl (fun K hK => ?_) AllReady.nil
      go_simp
      go_wp2_with fail
      refine (K4.out _ _ HP11.out).mono ?_
      rintro e w12 ⟨a2, c2, rfl, hA1, hA2, hB12⟩
      have HA1 := Lib.hid hA1
      have HA2 := Lib.hid hA2
      have HB12 := Lib.hid hB12
      clear hA1 hA2 hB12
      go_wp2_with fail
      refine wpAny_ready (rs := [17]) (by kernel_rfl) (by simp) ?_
      refine AllReady.cons rfl (fun K hK => ?_) AllReady.nil
      go_simp
      go_wp2_with fail
      refine (K5.out _ _ _ _ _ HA1.out HA2.out).mono ?_
      rintro e w13 ⟨rfl, k, rfl⟩
      go_wp2_with fail
      refine wpAny_take (i := 18) (v := ?_) rfl (by kernel_rfl) (by kernel_rfl) (by kernel_rfl) (fun _ _ _ h => h) (Or.inl ⟨by kernel_rfl, ?_⟩) ?_
      rotate_left
      · (intro w; go_simp; try with_reducible rfl)
      refine wpAny_take (i := 19) (v := ?_) rfl (by kernel_rfl) (by kernel_rfl) (by kernel_rfl) (fun _ _ _ h => h) (Or.inl ⟨by kernel_rfl, ?_⟩) ?_
      rotate_left
      · (intro w; go_simp; try with_reducible rfl)
      refine wpAny_done (by kernel_rfl) ?_ _
      go_wp2_with fail
      go_ret
      exact ⟨rfl, fin.out _ (below_drewN HB12.out k)⟩
  · exact absurd rfl hne
end Go.Proofs.YtalnepcbaegaeaaDoor
