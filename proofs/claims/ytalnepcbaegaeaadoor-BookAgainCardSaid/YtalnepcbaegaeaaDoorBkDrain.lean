/- WALK: ricksteadlaw6.drained. -/
import Derived.Test.YtalnepcbaegaeaaDoorBkSame
import Derived.Test.YtalnepcbaegaeaaDoorItRow
import Derived.Maps.AppendAt
set_option linter.unusedVariables false
set_option linter.unusedSimpArgs false
namespace Go.Proofs.YtalnepcbaegaeaaDoor
open Go Go.RowKit SimPlain HeapPlain BookPlain

/-- what has been taken out, and what waits -/
structure Drain (w : World) (B S : Nat) (F : Nat → Prop) (q : List Ev) (seq : Int) (m i : Nat) (l1 q1 : List Ev) (F1 : Nat → Prop) (T1 : List UInt8) (a : Option Addr) (c : Nat) (wr : World) : Prop where
  cut : l1 ++ q1 = q
  len : l1.length = i
  book : BookQ wr B S F1 q1 seq T1
  row : EtOwn wr w.heap.size a c l1
  foot : ∀ k, F1 k → F k ∨ w.heap.size ≤ k
  sep : ∀ k, (Value.slice a l1.length c).ownBlock = some k → ¬ F1 k
  only : Only w wr F
  txt : T1.length ≤ m + 90 * i
set_option maxRecDepth 100000 in
set_option maxHeartbeats 4000000 in
theorem drained_any (S B : Nat) (F : Nat → Prop) (q : List Ev) (seq : Int) (T : List UInt8) (w : World) (h : BookQ w B S F q seq T) (hq : q.length ≤ 60) (hB : B ≤ w.heap.size) (hB2 : 2 < B) (htab : Tab w) (hT : T.length ≤ 150000000) :
    Calls Tryd.prog 18 #[.pointer (some ⟨S, 0, none⟩)] w fun e w' => ∃ F' T' a c, e = .returned (.slice a q.length c) ∧ Drain w B S F q seq T.length q.length q [] F' T' a c w' := by
  have H0 : Hid (Drain w B S F q seq T.length 0 [] q F T none 0 w) := Lib.hid ⟨rfl, rfl, h, EtOwn.nil _ _, fun k hk => .inl hk, fun k hk => by simp [Value.ownBlock] at hk, Only.refl _ _, by omega⟩
  have HT := Lib.hid htab
  have hF2 : ¬ F 2 := fun c => by have := (h.fb 2 c).1; omega
  obtain ⟨i0, hi0, hz0, hz1, hz2⟩ := info_parts etInfo
  clear h htab
  go_enter Tryd.func18, Tryd.ntmps18
  go_wp2
  go_loopw [3, 4] (fun ov iv wr => ∃ (i : Nat) (l1 q1 : List Ev) (F1 : Nat → Prop) (T1 : List UInt8) (a : Option Addr) (c : Nat), ov = .slice a i c ∧ iv = .int .i64 i ∧ Drain w B S F q seq T.length i l1 q1 F1 T1 a c wr) (fun _ iv _ => 60 - (intOf iv).toNat)
  case atStart => exact ⟨0, [], q, F, T, none, 0, rfl, rfl, H0.out⟩
  case round =>
    obtain ⟨i, l1, q1, F1, T1, a, c, rfl, rfl, hD⟩ := hrel
    have HD := Lib.hid hD
    have hil : i + q1.length = q.length := by rw [← hD.cut, List.length_append, hD.len]
    clear hD
    cases q1 with
    | nil =>
      have hi : i = q.length := by simpa using hil
      have hM := BMany_any S B F1 [] seq T1 wr HD.out.book (by simp)
      have HM := Lib.hid hM
      have hfin : Hid (∃ F' T' a' c', (Value.slice a i c) = .slice a' q.length c' ∧ Drain w B S F q seq T.length q.length q [] F' T' a' c' wr) := Lib.hid (by
        have e : l1 = q := by have := HD.out.cut; simpa using this
        have d := HD.out
        rw [e, hi] at d
        exact ⟨F1, T1, a, c, by rw [hi], d⟩)
      clear hM hil
      rcases Nat.lt_or_ge i 60 with c60 | c60
      · have hI : (i : Int) < 60 := by omega
        clear hi
        go_wp2_with fail
        refine HM.out.mono ?_
        rintro e w2 ⟨rfl, rfl⟩
        go_wp2
        go_ret
        obtain ⟨F', T', a', c', e1, d⟩ := hfin.out
        exact ⟨F', T', a', c', by rw [← e1]; rfl, d⟩
      · have hI : decide ((i : Int) < 60) = false := decide_eq_false (by omega)
        have hI2 : decide (i < 60) = false := decide_eq_false (by omega)
        clear hi
        go_wp2
        go_ret
        obtain ⟨F', T', a', c', e1, d⟩ := hfin.out
        exact ⟨F', T', a', c', by rw [← e1]; rfl, d⟩
    | cons x q2 =>
      have hI : (i : Int) < 60 := by simp at hil; omega
      have hq2 : q2.length < 60 := by simp at hil; omega
      have hM := BMany_any S B F1 (x :: q2) seq T1 wr HD.out.book (by simp; omega)
      have HM := Lib.hid hM
      obtain ⟨m, hm⟩ : ∃ m, m = (x :: q2).length := ⟨_, rfl⟩
      rw [← hm] at HM
      have hm0 : (0 : Int) < (m : Int) := by rw [hm]; simp
      have hm1 : 0 < m := by rw [hm]; simp
      have hP := BPop_some S B F1 x q2 seq T1 wr HD.out.book hq2 (Nat.le_trans hB HD.out.only.size) (HT.out.only HD.out.only hF2) (by have := HD.out.txt; simp at hil; omega)
      have HP := Lib.hid hP
      clear hM hP hm
      go_wp2_with fail
      refine HM.out.mono ?_
      rintro e w2 ⟨rfl, rfl⟩
      go_wp2_with fail
      refine HP.out.mono ?_
      rintro e w5 ⟨rfl, hQ5, o5⟩
      have hs5 := o5.size
      have hlt1 := HD.out.row.lt
      have hfb := HD.out.book.fb
      have hRow5 : EtOwn w5 w.heap.size a c l1 := HD.out.row.same fun k hk => o5.block k (hlt1 k hk).2 (HD.out.sep k hk)
      have hOwn7 : ((w5.alloc (.cells #[.int .i64 x.t, .int .i64 x.id] 28)).alloc (.cells #[.int .i64 x.t, .int .i64 x.id] 28)).ownsRow w.heap.size 28 2 (.slice a i c) i (flat2 l1) := by
        have := World.ownsRow.alloc (World.ownsRow.alloc hRow5 (.cells #[.int .i64 x.t, .int .i64 x.id] 28)) (.cells #[.int .i64 x.t, .int .i64 x.id] 28)
        rw [HD.out.len] at this
        exact this
      have o57 : Only w5 ((w5.alloc (.cells #[.int .i64 x.t, .int .i64 x.id] 28)).alloc (.cells #[.int .i64 x.t, .int .i64 x.id] 28)) (fun _ => False) := (Only.alloc _ _ (fun _ => False)).trans (Only.alloc _ _ (fun _ => False)) (fun _ _ c => c)
      have hres : Hid (∀ v' w8, w8.ownsRow w.heap.size 28 2 v' (i + 1) (flat2 l1 ++ [.int .i64 x.t, .int .i64 x.id]) → ((w5.alloc (.cells #[.int .i64 x.t, .int .i64 x.id] 28)).alloc (.cells #[.int .i64 x.t, .int .i64 x.id] 28)).grownBy w8 (Value.slice a i c).ownBlock →
          (v'.ownBlock = (Value.slice a i c).ownBlock ∨ v'.ownBlock = some (w5.heap.size + 2)) → ∃ a' c', v' = .slice a' (i + 1) c' ∧ Drain w B S F q seq T.length (i + 1) (l1 ++ [x]) q2 (Grow F1 wr w5) (T1 ++ lineB popB) a' c' w8) := Lib.hid fun v' w8 o gr hor => by
        have e1 : flat2 l1 ++ [.int .i64 x.t, .int .i64 x.id] = flat2 (l1 ++ [x]) := by rw [flat2_append]; rfl
        rw [e1] at o
        obtain ⟨a', c', rfl, hE⟩ := EtOwn.of o
        have hl : (l1 ++ [x]).length = i + 1 := by rw [List.length_append, HD.out.len]; rfl
        have own1 : ∀ k, (Value.slice a i c).ownBlock = some k → w.heap.size ≤ k ∧ k < wr.heap.size ∧ ¬ F1 k := fun k hk => by
          rw [← HD.out.len] at hk
          exact ⟨(hlt1 k hk).1, (hlt1 k hk).2, HD.out.sep k hk⟩
        have og : Only ((w5.alloc (.cells #[.int .i64 x.t, .int .i64 x.id] 28)).alloc (.cells #[.int .i64 x.t, .int .i64 x.id] 28)) w8 (fun k => (Value.slice a i c).ownBlock = some k) :=
          ⟨gr.os, gr.tape, gr.output, gr.size, fun k hk hn => gr.block k hk (fun e => hn e.symm)⟩
        refine ⟨a', c', by rw [hl], ⟨by rw [← HD.out.cut]; simp, hl, ?_, hE, fun k hk => ?_, fun k hk => ?_, ?_, ?_⟩⟩
        · refine (hQ5.only o57 (fun _ _ c => c)).only og fun k hk c1 => ?_
          obtain ⟨_, h2, h3⟩ := own1 k c1
          rcases hk with hk | hk
          · exact h3 hk
          · omega
        · rcases hk with hk | hk
          · exact HD.out.foot k hk
          · have := HD.out.only.size; exact .inr (by omega)
        · rw [hl] at hk
          rcases hor with e | e
          · have e2 : (Value.slice a i c).ownBlock = some k := by rw [← e, hl]; exact hk
            obtain ⟨_, h2, h3⟩ := own1 k e2
            intro c1
            rcases c1 with c1 | c1
            · exact h3 c1
            · omega
          · rw [hl] at e
            have e2 : k = w5.heap.size + 2 := Option.some.inj (hk.symm.trans e)
            intro c1
            rcases c1 with c1 | c1
            · have := (hfb k c1).2; omega
            · omega
        · have h1 := HD.out.only.trans o5 (fun k hk c1 => by
            rcases HD.out.foot k c1 with h | h
            · exact h
            · omega)
          exact (h1.trans o57 (fun _ _ c => c.elim)).trans og (fun k hk c1 => by have := (own1 k c1).1; omega)
        · have h1 := HD.out.txt
          have h2 := lineB_len popB (by decide)
          rw [List.length_append]; omega
      have HQ5 := Lib.hid hQ5
      have HO7 := Lib.hid hOwn7
      have hi60 : i < 60 := by omega
      have hbase : Hid (w.heap.size ≤ ((w5.alloc (.cells #[.int .i64 x.t, .int .i64 x.id] 28)).alloc (.cells #[.int .i64 x.t, .int .i64 x.id] 28)).heap.size) := Lib.hid (by have := HD.out.only.size; have := o57.size; omega)
      clear hQ5 o5 hs5 hlt1 hfb hRow5 hOwn7 o57
      go_wp2_with (at_builtin; refine wpList_append_own_at _ rfl (.tmp 24) (.tmp 26) 22 rfl w.heap.size 28 i0 (.agg #[.int .i64 0, .int .i64 0]) 2 16 Tryd.underlying22 hi0 hz0 hz1 hz2 rfl (by decide) (.slice a i c) i (flat2 l1) rfl HO7.out ⟨_, 0, none⟩ 1 1 [.int .i64 x.t, .int .i64 x.id] rfl rfl (et_cells_new _ _ _ _ _ (by simp)) (by simp [Value.oneCell']) (by unfold maxLen; omega) (by omega) hbase.out ?_; intro v2 w8 o8 g8 _ n8; obtain ⟨a2, c2, hv2, hd2⟩ := hres.out v2 w8 o8 g8 (by simpa using n8); subst hv2; have HD2 := Lib.hid hd2; clear o8 g8 n8 hd2)
      go_roundw
      case rel => exact ⟨i + 1, _, _, _, _, a2, c2, by first | rfl | go_num, by go_num, HD2.out⟩
      case measure => simp only [intOf]; omega
end Go.Proofs.YtalnepcbaegaeaaDoor
