/- WALK: desk.Run: a session, by the program. -/
import Derived.Test.YtfejlkgddnamoaaGreatDoorDeskAny
import Derived.Test.YtfejlkgddnamoaaGreatDoorDeskBuild
set_option linter.unusedVariables false
set_option linter.unusedSimpArgs false
namespace Go.Proofs.YtfejlkgddnamoaaGreatDoor
open Go Go.RowKit SimPlain HeapPlain BookPlain NumPlain SpPlain LinesPlain
attribute [local go_sem] Oper.semAt_some

theorem lines_many : ∀ (n : Nat) (s : List UInt8), s.length ≤ n → (linesOf s).length ≤ s.length := by
  intro n
  induction n with
  | zero =>
    intro s h
    obtain rfl := List.eq_nil_of_length_eq_zero (Nat.le_zero.1 h)
    rw [linesOf_nil]; exact Nat.le_refl _
  | succ n ih =>
    intro s h
    by_cases h0 : s = []
    · rw [h0, linesOf_nil]; exact Nat.le_refl _
    · rw [linesOf_cut s h0]
      have h1 := cutL_len s h0
      have h2 := cutL_sum s
      have := ih (cutL s).2 (by omega)
      rw [List.length_cons]
      omega
/-- between two lines: d: the desk; d + 1: the answers; d + 2: the iterator's; d + 3, d + 4: the loop's -/
structure RunI (n0 d : Nat) (w : World) (st : St) (T : List UInt8) (W : World) : Prop where
  desk : ∃ F v, DeskS W n0 d F st ∧ SbT W n0 (d + 1) v T ∧ (∀ k, F k → (n0 ≤ k ∧ k < d) ∨ d + 5 ≤ k) ∧ (∀ k, v.ownBlock = some k → d + 5 ≤ k ∧ ¬ F k)
  low : Below n0 w W
theorem RunI.only {n0 d : Nat} {w : World} {st : St} {T : List UInt8} {A B : World} (h : RunI n0 d w st T A) (o : Only A B (fun k => k = d + 2 ∨ k = d + 3 ∨ k = d + 4)) : RunI n0 d w st T B := by
  obtain ⟨⟨F, v, h1, h2, h3, h4⟩, low⟩ := h
  have hlt := h1.lt
  have hlow := h1.low
  exact ⟨⟨F, v, h1.only o (fun k hk c => by have := h3 k hk; omega) (by omega), h2.only o (by omega) (fun k hk c => by have := (h4 k hk).1; omega), h3, h4⟩, low.trans (o.below (by omega) (fun k c => by omega))⟩
/-- a line done and written -/
theorem run_step {n0 d : Nat} {w W W2 W3 W4 : World} {st' : St} {T ans : List UInt8} {F F' : Nat → Prop} {v v' v'' : Value} (hS : SbT W n0 (d + 1) v T) (hF : ∀ k, F k → (n0 ≤ k ∧ k < d) ∨ d + 5 ≤ k) (hv : ∀ k, v.ownBlock = some k → d + 5 ≤ k ∧ ¬ F k) (low : Below n0 w W) (hd : n0 ≤ d) (hW : d + 5 ≤ W.heap.size)
    (hD2 : DeskS W2 n0 d F' st') (hF2 : ∀ k, F' k → F k ∨ (W.heap.size ≤ k ∧ k < W2.heap.size)) (o2 : Only W W2 (fun k => F k ∨ k = d))
    (hS3 : SbT W3 n0 (d + 1) v' (T ++ ans)) (o3 : Only W2 W3 (fun k => k = d + 1 ∨ v.ownBlock = some k)) (f3 : ∀ k, v'.ownBlock = some k → v.ownBlock = some k ∨ W2.heap.size ≤ k)
    (hS4 : SbT W4 n0 (d + 1) v'' (T ++ ans ++ [10])) (o4 : Only W3 W4 (fun k => k = d + 1 ∨ v'.ownBlock = some k)) (f4 : ∀ k, v''.ownBlock = some k → v'.ownBlock = some k ∨ W3.heap.size ≤ k) :
    (W4.heap[d + 2]? = W.heap[d + 2]? ∧ W4.heap[d + 3]? = W.heap[d + 3]? ∧ W4.heap[d + 3 + 1]? = W.heap[d + 3 + 1]?) ∧ RunI n0 d w st' (T ++ ans ++ [10]) W4 := by
  have s2 := o2.size
  have s3 := o3.size
  have s4 := o4.size
  have ownv : ∀ k, v.ownBlock = some k → d + 5 ≤ k ∧ k < W.heap.size ∧ ¬ F' k := fun k hk => by
    have h1 := hv k hk
    have h2 := hS.own k hk
    refine ⟨h1.1, h2.2, fun c => ?_⟩
    rcases hF2 k c with c | c
    · exact h1.2 c
    · omega
  have ownv' : ∀ k, v'.ownBlock = some k → d + 5 ≤ k ∧ k < W3.heap.size ∧ ¬ F' k := fun k hk => by
    have h2 := hS3.own k hk
    rcases f3 k hk with c | c
    · have := ownv k c; exact ⟨this.1, by omega, this.2.2⟩
    · exact ⟨by omega, h2.2, fun c' => by have := (hD2.foot k c').2; omega⟩
  have ownv'' : ∀ k, v''.ownBlock = some k → d + 5 ≤ k ∧ ¬ F' k := fun k hk => by
    rcases f4 k hk with c | c
    · have := ownv' k c; exact ⟨this.1, this.2.2⟩
    · exact ⟨by omega, fun c' => by have := (hD2.foot k c').2; omega⟩
  have hF' : ∀ k, F' k → (n0 ≤ k ∧ k < d) ∨ d + 5 ≤ k := fun k hk => by
    rcases hF2 k hk with c | c
    · exact hF k c
    · exact .inr (by omega)
  have hD3 : DeskS W3 n0 d F' st' := hD2.only o3 (fun k hk c => by
    rcases c with c | c
    · have := hF' k hk; omega
    · exact (ownv k c).2.2 hk) (fun c => by
    rcases c with c | c
    · omega
    · have := (ownv d c).1; omega)
  have hD4 : DeskS W4 n0 d F' st' := hD3.only o4 (fun k hk c => by
    rcases c with c | c
    · have := hF' k hk; omega
    · exact (ownv' k c).2.2 hk) (fun c => by
    rcases c with c | c
    · omega
    · have := (ownv' d c).1; omega)
  have keep : ∀ k, d + 2 ≤ k → k < d + 5 → W4.heap[k]? = W.heap[k]? := fun k h1 h2 => by
    have e2 := o2.block k (by omega) (fun c => by
      rcases c with c | c
      · have := hF k c; omega
      · omega)
    have e3 := o3.block k (by omega) (fun c => by
      rcases c with c | c
      · omega
      · have := (ownv k c).1; omega)
    have e4 := o4.block k (by omega) (fun c => by
      rcases c with c | c
      · omega
      · have := (ownv' k c).1; omega)
    exact e4.trans (e3.trans e2)
  refine ⟨⟨keep _ (by omega) (by omega), keep _ (by omega) (by omega), keep _ (by omega) (by omega)⟩, ⟨⟨F', v'', hD4, hS4, hF', ownv''⟩, ?_⟩⟩
  have l2 := low.trans (o2.below (by omega) (fun k c => by
    rcases c with c | c
    · have := hF k c; omega
    · omega))
  have l3 := l2.trans (o3.below (by omega) (fun k c => by
    rcases c with c | c
    · omega
    · have := (ownv k c).1; omega))
  exact l3.trans (o4.below (by omega) (fun k c => by
    rcases c with c | c
    · omega
    · have := (ownv' k c).1; omega))
set_option maxRecDepth 100000 in
set_option maxHeartbeats 4000000 in
theorem Run_any (s : List UInt8) (w : World) (env : Env w) (hg : Handle w) (hbad : BadG w) (hs : s.length ≤ 9223372036854775807) :
    Calls Tryz.prog 16 #[.string ⟨s.toArray⟩] w fun e w' => e = .returned (.string ⟨(runP s).toArray⟩) ∧ Below w.heap.size w w' := by
  by_cases hlong : 3000 < s.length
  · have hr : Hid (runP s = tooB) := Lib.hid (by unfold runP; rw [if_pos hlong])
    obtain ⟨Y, hY⟩ : ∃ Y : ByteArray, Y = ⟨s.toArray⟩ := ⟨_, rfl⟩
    have hYs : Y.size = s.length := by rw [hY]; exact mk_size _
    have hlongI : (3000 : Int) < (Y.size : Int) := by omega
    rw [← hY]
    clear hlong hY hYs env hg hbad hs
    go_enter Tryz.func16, Tryz.ntmps16
    go_wp2
    go_ret
    exact ⟨by rw [hr.out]; rfl, Below.refl _ _⟩
  · have hbig := env.big
    have hlong2 := Lib.hid hlong
    refine (callsIn_wide (n := 3)).1 ?_
    refine callsIn_of_wp_marks Tryz.func16 rfl trivial ?_ rfl
    simp only [Tryz.ntmps16, List.size_toArray, List.length_cons, List.length_nil, Nat.reduceAdd, Nat.reduceSub, Array.replicate_succ, Array.replicate_zero, List.push_toArray, List.append_toArray, List.nil_append, List.cons_append]
    obtain ⟨Y, hY⟩ : ∃ Y : ByteArray, Y = ⟨s.toArray⟩ := ⟨_, rfl⟩
    have hYs : Y.size = s.length := by rw [hY]; exact mk_size _
    have HEnv := Lib.hid env
    have HG := Lib.hid hg
    have HBad := Lib.hid hbad
    have Hs := Lib.hid hs
    have HY := Lib.hid hY
    have HYs := Lib.hid hYs
    have hYb : Y.size ≤ 9223372036854775807 := by omega
    rw [← hY]
    clear env hg hbad hs hY hYs
    have hshort : decide ((3000 : Int) < (Y.size : Int)) = false := decide_eq_false (by have := hlong2.out; have := HYs.out; omega)
    have hshortI : (Y.size : Int) ≤ 3000 := by have := hlong2.out; have := HYs.out; omega
    have hs3 : s.length ≤ 3000 := by have := hlong2.out; omega
    have hr : Hid (runP s = sessP st0 (linesOf s)) := Lib.hid (by unfold runP; rw [if_neg (by omega)])
    have hL := lines_many _ s (Nat.le_refl _)
    have HL : Hid ((linesOf s).length ≤ 3000) := Lib.hid (by omega)
    have Hs3 := Lib.hid hs3
    clear hlong hs3 hL
    gi_wp2_with (refine ⟨trivial, ?_⟩; gi_at_call 8; refine (callsIn_wide.2 (BNew_any _)).mono ?_; rintro e w1 ⟨S, rfl, hq, hb⟩)
    have HQ := Lib.hid hq
    have HB := Lib.hid hb
    clear hq hb
    gi_wp2_with (refine ⟨trivial, ?_⟩; gi_at_call 26; refine (callsIn_wide.2 (Lines_any Y _)).mono ?_; rintro e w' ⟨rfl, hw'⟩; subst hw')
    have hB1 := HB.out
    have hsz1 : w.heap.size ≤ w1.heap.size := hB1.size
    obtain ⟨d, hd⟩ : ∃ d, d = w1.heap.size := ⟨_, rfl⟩
    obtain ⟨W5, hW5⟩ : ∃ W5, W5 = ((w1.alloc (.cells #[.pointer (some ⟨S, 0, none⟩)] 72)).alloc (.cells #[.pointer none, .slice none 0 0] 52)).alloc (.cells #[.string Y] 9) := ⟨_, rfl⟩
    have hs5 : W5.heap.size = d + 3 := by rw [hW5, hd]; simp
    have o5 : Only w1 W5 (fun _ => False) := by
      rw [hW5]; exact ((Only.alloc w1 _ _).trans (Only.alloc _ _ _) (fun _ _ c => c)).trans (Only.alloc _ _ _) (fun _ _ c => c)
    have c5 : W5.heap[d]? = some (.cells #[.pointer (some ⟨S, 0, none⟩)] 72 (0, 0)) := by
      rw [hW5, hd, Below.heap_alloc _ _ _ (by simp; omega), Below.heap_alloc _ _ _ (by simp)]; exact heap_alloc_new w1 _
    have c6 : W5.heap[d + 1]? = some (.cells #[.pointer none, .slice none 0 0] 52 (0, 0)) := by
      have h := heap_alloc_new (w1.alloc (.cells #[.pointer (some ⟨S, 0, none⟩)] 72)) (.cells #[.pointer none, .slice none 0 0] 52)
      rw [World.size_alloc] at h
      rw [hW5, hd, Below.heap_alloc _ _ _ (by simp)]; exact h
    have cb : W5.heap[d + 1 + 1]? = some (boxS s) := by
      have h := heap_alloc_new ((w1.alloc (.cells #[.pointer (some ⟨S, 0, none⟩)] 72)).alloc (.cells #[.pointer none, .slice none 0 0] 52)) (.cells #[.string Y] 9)
      rw [World.size_alloc, World.size_alloc] at h
      rw [hW5, hd]; unfold boxS; rw [← HY.out]; exact h
    have hdn : w.heap.size ≤ d := by rw [hd]; exact hsz1
    have I5 : ∀ W6, Only W5 W6 (fun _ => False) → RunI w.heap.size d w st0 [] W6 := fun W6 o6 => by
      have o : Only w1 W6 (fun _ => False) := o5.trans o6 (fun _ _ c => c)
      have lt : ∀ {k : Nat} {x : Obj}, W5.heap[k]? = some x → k < W5.heap.size := fun h => (Array.getElem?_eq_some_iff.1 h).1
      have hq := HQ.out.only o (fun _ _ c => c)
      have p5 := (o6.block _ (lt c5) (fun c => c)).trans c5
      have p6 := (o6.block _ (lt c6) (fun c => c)).trans c6
      refine ⟨⟨fun k => w.heap.size ≤ k ∧ k < w1.heap.size, .slice none 0 0, ⟨⟨w.heap.size, S, Nat.le_refl _, by have := o.size; omega, hq, p5⟩, fun c => by omega, hdn⟩, SbT.fresh W6 _ _ p6 (by omega), fun k hk => .inl (by omega), fun k hk => by simp [Value.ownBlock] at hk⟩, hB1.trans (o.below hsz1 (fun k c => c.elim))⟩
    rw [← hW5, ← hd]
    clear hW5 o5 c5 c6 hB1 hd
    refine wpIn_seqL (bs := d + 1 + 1) rfl (by omega) (gf := 42) (lb := #[.pointer (some ⟨d + 1 + 1, 0, none⟩)]) rfl trivial (enters_of Tryz.func42 (by kernel_rfl) rfl) (by omega)
      (lines_seq _ (by omega) _ s W5 cb (by have := hlong2.out; omega)) (fun _ => rfl)
      (fun pre W => RunI w.heap.size d w (stateA st0 pre) (sessP st0 pre) W)
      (fun _ _ _ => False)
      (fun pre A B h o => h.only (o.mono fun k _ c => by rw [hs5] at c; exact c))
      (fun c pre A B h o => h)
      (fun W6 o6 _ => I5 W6 o6)
      (fun x => { tmps := #[.string Y, undef, .string ⟨#[]⟩, .pointer (some ⟨d, 0, none⟩), .pointer (some ⟨d + 1, 0, none⟩), .string ⟨x.toArray⟩, .string Y, .int .i64 Y.size, .bool false, .pointer (some ⟨S, 0, none⟩), .agg #[.pointer (some ⟨S, 0, none⟩)], .string Y, .func (.func 42) #[] #[.pointer (some ⟨d + 1 + 1, 0, none⟩)], .string ⟨x.toArray⟩, undef, undef, undef, undef, undef, undef], defers := [] }) ?assign ?body ?done ?stop
    case assign =>
      intro l x W K hK
      gi_wp2
      exact hK
    case body =>
      rintro l pre x W ⟨⟨F, v, hD, hS, hF, hv⟩, low⟩ hpre hW2
      rw [hs5] at hW2 ⊢
      have hn1 : pre.length + 1 ≤ (linesOf s).length := by
        have := hpre.length_le
        simpa using this
      have hj : pre.length ≤ 3000 := by have := HL.out; omega
      have hxl : x.length ≤ 3000 := by
        have := lines_len _ s (Nat.le_refl _) x (hpre.subset (by simp))
        have := Hs3.out; omega
      obtain ⟨t, ht⟩ : ∃ t, t = Lib.trimSuffix x [10] := ⟨_, rfl⟩
      have htl : t.length ≤ 3000 := by
        rw [ht]; unfold Lib.trimSuffix
        by_cases c : Lib.hasSuffix x [10] = true
        · rw [if_pos c, List.length_take]; omega
        · rw [if_neg c]; exact hxl
      have inv : Inv (stateA st0 pre) pre.length := by have h := Inv.all st0 0 Inv.zero pre; rwa [Nat.zero_add] at h
      have hans := act_no inv (by omega) t
      have htx := (sess_count pre st0 0 Inv.zero (by omega)).2.1
      obtain ⟨st, hst⟩ : ∃ st, st = stateA st0 pre := ⟨_, rfl⟩
      obtain ⟨T, hT⟩ : ∃ T, T = sessP st0 pre := ⟨_, rfl⟩
      rw [← hst] at hD inv hans
      rw [← hT] at hS htx
      obtain ⟨R, hR⟩ : ∃ R, R = actP st t := ⟨_, rfl⟩
      have hnext : stateA st0 (pre ++ [x]) = R.1 ∧ sessP st0 (pre ++ [x]) = T ++ R.2 ++ [10] := by
        rw [stateA_snoc, sess_snoc, ← hst, ← hT, hR, ht]
        exact ⟨rfl, by simp [lineA]⟩
      have HNext := Lib.hid hnext
      have hbigW : Env W ∧ Handle W ∧ BadG W := ⟨HEnv.out.to low, HG.out.to low, HBad.out.to low⟩
      have hLine := hD.line inv (by omega) (by omega) hbigW.1 hbigW.2.1 hbigW.2.2 t (by omega)
      rw [← hR] at hLine hans
      obtain ⟨A, hA⟩ : ∃ A : ByteArray, A = ⟨R.2.toArray⟩ := ⟨_, rfl⟩
      have hAs : A.size = R.2.length := by rw [hA]; exact mk_size _
      have hAd : A.data.toList = R.2 := by rw [hA]
      unfold ActRes at hLine
      rw [← hA] at hLine
      have HLine := Lib.hid hLine
      have HTrim : Hid (Calls Tryz.prog 36 #[.string ⟨x.toArray⟩, .string ⟨#[10]⟩] W fun e w' => e = .returned (.string ⟨t.toArray⟩) ∧ W = w') := Lib.hid (by
        rw [ht]
        exact (sd_strings_TrimSuffix ⟨x.toArray⟩ ⟨#[10]⟩ W (by rw [mk_size]; omega)).mono fun e w' ⟨h, h'⟩ => ⟨h, h'.symm⟩)
      have HWS : Hid (∀ W2, SbT W2 w.heap.size (d + 1) v T → Calls Tryz.prog 34 #[.pointer (some ⟨d + 1, 0, none⟩), .string A] W2 fun e w' => e = .returned (.tuple #[.int .i64 A.size, .nilIface]) ∧ SbRes w.heap.size (d + 1) v (T ++ R.2) W2 w') := Lib.hid fun W2 h => by
        have h2 := WriteString_sb w.heap.size (d + 1) v T A W2 h (by have := hans.2; omega)
        rw [hAd] at h2
        exact h2
      have HWB : Hid (∀ W3 v', SbT W3 w.heap.size (d + 1) v' (T ++ R.2) → Calls Tryz.prog 37 #[.pointer (some ⟨d + 1, 0, none⟩), .int .u8 10] W3 fun e w' => e = .returned .nilIface ∧ SbRes w.heap.size (d + 1) v' (T ++ R.2 ++ [10]) W3 w') := Lib.hid fun W3 v' h =>
        WriteByte_sb w.heap.size (d + 1) v' (T ++ R.2) 10 W3 h (by rw [List.length_append]; have := hans.2; omega)
      have HS := Lib.hid hS
      have HF := Lib.hid hF
      have Hv := Lib.hid hv
      have HLow := Lib.hid low
      have hAb : A.size ≤ 50 := by have := hans.2; omega
      obtain ⟨X, hX⟩ : ∃ X : ByteArray, X = ⟨x.toArray⟩ := ⟨_, rfl⟩
      obtain ⟨Z, hZ⟩ : ∃ Z : ByteArray, Z = ⟨t.toArray⟩ := ⟨_, rfl⟩
      rw [← hX, ← hZ] at HTrim
      rw [← hZ] at HLine
      rw [← hX]
      clear hD hS hF hv low hn1 hxl ht htl inv hans htx hst hT hR hnext hbigW hLine hA hAs hAd hX hZ hpre
      gi_wp2_with (refine ⟨trivial, ?_⟩; gi_at_call 36; refine (CallsIn.inRound l (callsIn_wide.2 HTrim.out)).mono ?_; rintro e w' ⟨rfl, rfl⟩)
      gi_wp2_with (refine ⟨trivial, ?_⟩; gi_at_call 35; refine (CallsIn.inRound l (callsIn_wide.2 HLine.out)).mono ?_; rintro e W2 ⟨rfl, F', hD2, hF2, o2⟩; have HD2 := Lib.hid hD2; have HF2 := Lib.hid hF2; have HO2 := Lib.hid o2; clear hD2 hF2 o2; have HS2 : Hid (SbT W2 w.heap.size (d + 1) v T) := Lib.hid (HS.out.only HO2.out (fun c => by rcases c with c | c; (have := HF.out _ c; omega); omega) (fun k hk c => by rcases c with c | c; exact (Hv.out k hk).2 c; (have := (Hv.out k hk).1; omega))))
      gi_wp2_with (refine ⟨trivial, ?_⟩; gi_at_call 34; refine (CallsIn.inRound l (callsIn_wide.2 (HWS.out _ HS2.out))).mono ?_; rintro e W3 ⟨rfl, v', hS3, o3, f3⟩; have HS3 := Lib.hid hS3; have HO3 := Lib.hid o3; have HF3 := Lib.hid f3; clear hS3 o3 f3)
      gi_wp2_with (refine ⟨trivial, ?_⟩; gi_at_call 37; refine (CallsIn.inRound l (callsIn_wide.2 (HWB.out _ _ HS3.out))).mono ?_; rintro e W4 ⟨rfl, v'', hS4, o4, f4⟩; have HS4 := Lib.hid hS4; have HO4 := Lib.hid o4; have HF4 := Lib.hid f4; clear hS4 o4 f4)
      gi_wp2
      obtain ⟨hk, hI⟩ := run_step HS.out HF.out Hv.out HLow.out hdn hW2 HD2.out HF2.out HO2.out HS3.out HO3.out HF3.out HS4.out HO4.out HF4.out
      refine ⟨hk, ?_⟩
      show RunI w.heap.size d w (stateA st0 (pre ++ [x])) (sessP st0 (pre ++ [x])) W4
      rw [HNext.out.1, HNext.out.2]
      exact hI
    case done =>
      rintro W ⟨⟨F, v, hD, hS, hF, hv⟩, low⟩ hK
      rw [hs5] at hK ⊢
      have HStr := Lib.hid (String_sb w.heap.size (d + 1) v (sessP st0 (linesOf s)) W hS (by have := low.size; omega))
      have HK := Lib.hid hK
      have HLow := Lib.hid low
      obtain ⟨Z, hZ⟩ : ∃ Z : ByteArray, Z = ⟨(sessP st0 (linesOf s)).toArray⟩ := ⟨_, rfl⟩
      rw [← hZ] at HStr
      have HZ := Lib.hid hZ
      clear hD hS hF hv low hK hZ
      gi_wp2_with (refine ⟨trivial, ?_⟩; gi_at_call 25; refine (callsIn_wide.2 HStr.out).mono ?_; rintro e W2 ⟨rfl, hb, hk⟩; have HB2 := Lib.hid hb; have HK2 := Lib.hid hk; clear hb hk)
      gi_wp2
      have hk2 : W2.heap[d + 3]? = some (.deferred (some [])) := HK2.out _ _ HK.out (fun c => by have := Option.some.inj c; omega) (fun c fz e => by cases e)
      refine ⟨by simp, .inl ⟨_, _, rfl, run_takeDeferred hk2, ?_⟩⟩
      refine ⟨.string Z, ?_, ⟨by rw [HZ.out, hr.out], ?_⟩⟩
      · simp [results, Tryz.f16, go_sem]
      · have l2 := HLow.out.trans HB2.out
        exact l2.trans ((Only.putObj W2 (d + 3) _ (fun k => k = d + 3) rfl).below l2.size (fun k c => by omega))
    case stop =>
      rintro c pre W hpre hX hK
      exact hX.elim
end Go.Proofs.YtfejlkgddnamoaaGreatDoor
