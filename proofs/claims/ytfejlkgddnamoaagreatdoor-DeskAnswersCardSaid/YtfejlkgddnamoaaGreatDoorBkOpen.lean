/- WALK: book.Open: the lines of a text, done one after the other. -/
import Derived.Test.YtfejlkgddnamoaaGreatDoorBkReads
import Derived.Test.YtfejlkgddnamoaaGreatDoorBkTexts
import Derived.Shelf.RegionOpen
set_option linter.unusedVariables false
set_option linter.unusedSimpArgs false
namespace Go.Proofs.YtfejlkgddnamoaaGreatDoor
open Go Go.RowKit SimPlain HeapPlain BookPlain NumPlain SpPlain LinesPlain
attribute [local go_sem] Oper.semAt_some

/-! lines and their beginnings -/
theorem openP_step {x : List UInt8} {xs : List (List UInt8)} {st st' : St} (h : openP st (x :: xs) = (st', xs.length + 1, 0)) :
    Lib.hasSuffix x [10] = true ∧ (lineP st (Lib.trimSuffix x [10])).2 = 0 ∧ openP (lineP st (Lib.trimSuffix x [10])).1 xs = (st', xs.length, 0) := by
  unfold openP at h
  by_cases h1 : Lib.hasSuffix x [10] = true
  · rw [if_pos h1] at h
    by_cases h2 : (lineP st (Lib.trimSuffix x [10])).2 = 0
    · rw [if_pos h2] at h
      simp only [Prod.mk.injEq] at h
      exact ⟨h1, h2, by rw [← h.1, ← h.2.2]; ext1; rfl; ext1; simp; omega; rfl⟩
    · rw [if_neg h2] at h
      simp only [Prod.mk.injEq] at h
      exact absurd h.2.2 h2
  · rw [if_neg h1] at h
    simp only [Prod.mk.injEq] at h
    omega
theorem openP_app : ∀ (pre rest : List (List UInt8)) (st st' : St), openP st pre = (st', pre.length, 0) → openP st (pre ++ rest) = ((openP st' rest).1, pre.length + (openP st' rest).2.1, (openP st' rest).2.2)
  | [], rest, st, st', h => by
    simp only [openP, Prod.mk.injEq] at h
    obtain rfl := h.1
    simp
  | x :: xs, rest, st, st', h => by
    obtain ⟨h1, h2, h3⟩ := openP_step h
    have ih := openP_app xs rest _ st' h3
    rw [List.cons_append, openP, if_pos h1, if_pos h2, ih]
    simp only [List.length_cons, Prod.mk.injEq, true_and, and_true]
    omega
theorem openP_stop {pre L : List (List UInt8)} {x : List UInt8} {st st' : St} (h : openP st pre = (st', pre.length, 0)) (hp : pre ++ [x] <+: L) (hx : Lib.hasSuffix x [10] = false) : openP st L = (st', pre.length, 0) := by
  obtain ⟨r, rfl⟩ := hp
  rw [List.append_assoc, openP_app _ _ _ _ h, List.singleton_append, openP, if_neg (by rw [hx]; decide)]
  simp
theorem openP_fault {pre L : List (List UInt8)} {x : List UInt8} {st st' : St} (h : openP st pre = (st', pre.length, 0)) (hp : pre ++ [x] <+: L) (hx : Lib.hasSuffix x [10] = true) (hc : (lineP st' (Lib.trimSuffix x [10])).2 ≠ 0) :
    openP st L = ((lineP st' (Lib.trimSuffix x [10])).1, pre.length + 1, (lineP st' (Lib.trimSuffix x [10])).2) := by
  obtain ⟨r, rfl⟩ := hp
  rw [List.append_assoc, openP_app _ _ _ _ h, List.singleton_append, openP, if_pos hx, if_neg hc]
theorem openP_next {pre : List (List UInt8)} {x : List UInt8} {st st' : St} (h : openP st pre = (st', pre.length, 0)) (hx : Lib.hasSuffix x [10] = true) (hc : (lineP st' (Lib.trimSuffix x [10])).2 = 0) :
    openP st (pre ++ [x]) = ((lineP st' (Lib.trimSuffix x [10])).1, (pre ++ [x]).length, 0) := by
  rw [openP_app _ _ _ _ h, openP, if_pos hx, if_pos hc]
  simp [openP]
theorem lines_len : ∀ (n : Nat) (s : List UInt8), s.length ≤ n → ∀ x ∈ linesOf s, x.length ≤ s.length := by
  intro n
  induction n with
  | zero =>
    intro s h x hx
    obtain rfl := List.eq_nil_of_length_eq_zero (Nat.le_zero.1 h)
    simp [linesOf_nil] at hx
  | succ n ih =>
    intro s h x hx
    by_cases h0 : s = []
    · rw [h0, linesOf_nil] at hx; simp at hx
    · rw [linesOf_cut s h0] at hx
      have h1 := cutL_len s h0
      have h2 := cutL_sum s
      rcases List.mem_cons.1 hx with h3 | h3
      · rw [h3]; omega
      · have := ih (cutL s).2 (by omega) x h3
        omega

/-- between two lines: b2, b3, b4: the results; b5: the book; b6: how many; bs: the iterator's; D, D + 1: the loop's -/
structure OpenI (n0 d D : Nat) (S : Nat) (w : World) (st : St) (i m : Nat) (W : World) : Prop where
  book : ∃ F, BookS W (n0 + 3) S F st i ∧ ∀ k, F k → (n0 + 3 ≤ k ∧ k < d) ∨ D + 2 ≤ k
  r2 : W.heap[n0]? = some (.cells #[.pointer none] 24 (0, 0))
  r3 : W.heap[n0 + 1]? = some (.cells #[.int .i64 0] 3 (0, 0))
  r4 : W.heap[n0 + 2]? = some (.cells #[.nilIface] 27 (0, 0))
  c5 : W.heap[d]? = some (.cells #[.pointer (some ⟨S, 0, none⟩)] 24 (0, 0))
  c6 : W.heap[d + 1]? = some (.cells #[.int .i64 m] 3 (0, 0))
  low : Below n0 w W
theorem OpenI.only {n0 d D S : Nat} {w : World} {st : St} {i m : Nat} {A B : World} (hd : n0 + 3 ≤ d ∧ D = d + 3) (h : OpenI n0 d D S w st i m A) (o : Only A B (fun k => k = d + 2 ∨ k = D ∨ k = D + 1)) : OpenI n0 d D S w st i m B := by
  obtain ⟨⟨F, hS, hF⟩, r2, r3, r4, c5, c6, low⟩ := h
  have lt : ∀ {k : Nat} {x : Obj}, A.heap[k]? = some x → k < A.heap.size := fun h => (Array.getElem?_eq_some_iff.1 h).1
  refine ⟨⟨F, ⟨hS.book.only o (fun k hk c => by have := hF k hk; omega), hS.many, hS.lo, hS.hi, hS.txt⟩, hF⟩, ?_, ?_, ?_, ?_, ?_, ?_⟩
  · exact (o.block _ (lt r2) (by omega)).trans r2
  · exact (o.block _ (lt r3) (by omega)).trans r3
  · exact (o.block _ (lt r4) (by omega)).trans r4
  · exact (o.block _ (lt c5) (by omega)).trans c5
  · exact (o.block _ (lt c6) (by omega)).trans c6
  · have := lt r2
    exact low.trans (o.below (by omega) (fun k c => by omega))
/-- what Open tells -/
def OpenRes (s : List UInt8) (w : World) (e : Ending) (w' : World) : Prop :=
  Below w.heap.size w w' ∧ ((openP st0 (linesOf s)).2.2 = 0 ∧ (∃ S F i B, i ≤ (linesOf s).length ∧ w.heap.size ≤ B ∧ B ≤ w'.heap.size ∧ e = .returned (.tuple #[.pointer (some ⟨S, 0, none⟩), .int .i64 (openP st0 (linesOf s)).2.1, .nilIface]) ∧ BookS w' B S F (openP st0 (linesOf s)).1 i) ∨
    (openP st0 (linesOf s)).2.2 ≠ 0 ∧ e = .returned (.tuple #[.pointer none, .int .i64 (openP st0 (linesOf s)).2.1, .iface 56 (.int .i64 (openP st0 (linesOf s)).2.2)]))
/-- how the loop may be left -/
def OpenX (n0 d D S : Nat) (w : World) (L : List (List UInt8)) (c : Code) (W : World) : Prop :=
  (c = .exit 0 ∧ (openP st0 L).2.2 = 0 ∧ ∃ i m, i ≤ L.length ∧ m = (openP st0 L).2.1 ∧ OpenI n0 d D S w (openP st0 L).1 i m W) ∨
  (c = .ret ∧ (openP st0 L).2.2 ≠ 0 ∧ W.heap[n0]? = some (.cells #[.pointer none] 24 (0, 0)) ∧ W.heap[n0 + 1]? = some (.cells #[.int .i64 (openP st0 L).2.1] 3 (0, 0)) ∧
    W.heap[n0 + 2]? = some (.cells #[.iface 56 (.int .i64 (openP st0 L).2.2)] 27 (0, 0)) ∧ Below n0 w W)
theorem OpenX.only {n0 d D S : Nat} {w : World} {L : List (List UInt8)} {c : Code} {A B : World} (hd : n0 + 3 ≤ d ∧ D = d + 3) (h : OpenX n0 d D S w L c A) (o : Only A B (fun k => k = d + 2 ∨ k = D ∨ k = D + 1)) : OpenX n0 d D S w L c B := by
  have lt : ∀ {k : Nat} {x : Obj}, A.heap[k]? = some x → k < A.heap.size := fun h => (Array.getElem?_eq_some_iff.1 h).1
  rcases h with ⟨h1, h2, i, m, h3, h4, h5⟩ | ⟨h1, h2, r2, r3, r4, low⟩
  · exact .inl ⟨h1, h2, i, m, h3, h4, h5.only hd o⟩
  · have := lt r2
    exact .inr ⟨h1, h2, (o.block _ (lt r2) (by omega)).trans r2, (o.block _ (lt r3) (by omega)).trans r3, (o.block _ (lt r4) (by omega)).trans r4, low.trans (o.below (by omega) (fun k c => by omega))⟩
theorem open_end {n0 d D S : Nat} {w : World} {st : St} {i m : Nat} {W : World} (hd : n0 + 3 ≤ d ∧ D = d + 3) (h : OpenI n0 d D S w st i m W) (hD : D < W.heap.size) (V : World)
    (hV : V = (((W.setCell ⟨n0, 0, none⟩ (.pointer (some ⟨S, 0, none⟩))).setCell ⟨n0 + 1, 0, none⟩ (.int .i64 m)).setCell ⟨n0 + 1 + 1, 0, none⟩ .nilIface).drew) :
    V.heap[D]? = W.heap[D]? ∧ ∀ V', V' = V.putObj D (.deferred none) → V'.cell? ⟨n0, 0, none⟩ = some (.pointer (some ⟨S, 0, none⟩)) ∧ V'.cell? ⟨n0 + 1, 0, none⟩ = some (.int .i64 m) ∧ V'.cell? ⟨n0 + 1 + 1, 0, none⟩ = some .nilIface ∧ Below n0 w V' ∧ n0 + 3 ≤ V'.heap.size ∧ ∃ F, BookS V' (n0 + 3) S F st i := by
  obtain ⟨⟨F, hS, hF⟩, r2, r3, r4, c5, c6, low⟩ := h
  obtain ⟨A1, hA1⟩ : ∃ A1, A1 = W.setCell ⟨n0, 0, none⟩ (.pointer (some ⟨S, 0, none⟩)) := ⟨_, rfl⟩
  obtain ⟨A2, hA2⟩ : ∃ A2, A2 = A1.setCell ⟨n0 + 1, 0, none⟩ (.int .i64 m) := ⟨_, rfl⟩
  obtain ⟨A3, hA3⟩ : ∃ A3, A3 = A2.setCell ⟨n0 + 1 + 1, 0, none⟩ .nilIface := ⟨_, rfl⟩
  rw [← hA1, ← hA2, ← hA3] at hV
  have o1 : Only W A1 (fun k => k = n0) := by rw [hA1]; exact Only.setCell _ _ _ _ rfl
  have o2 : Only A1 A2 (fun k => k = n0 + 1) := by rw [hA2]; exact Only.setCell _ _ _ _ rfl
  have o3 : Only A2 V (fun k => k = n0 + 2) := by
    have : Only A2 A3 (fun k => k = n0 + 2) := by rw [hA3]; exact Only.setCell _ _ _ _ rfl
    rw [hV]; exact this.drewN 1
  have lt : ∀ {k : Nat} {x : Obj}, W.heap[k]? = some x → k < W.heap.size := fun h => (Array.getElem?_eq_some_iff.1 h).1
  have s1 := o1.size
  have s2 := o2.size
  have s3 := o3.size
  have l4 := lt r4
  have q2 : A1.heap[n0]? = some (.cells #[.pointer (some ⟨S, 0, none⟩)] 24 (0, 0)) := by rw [hA1]; exact Lib.heap_setCell_same r2 _
  have q3 : A2.heap[n0 + 1]? = some (.cells #[.int .i64 m] 3 (0, 0)) := by
    have e := (o1.block _ (lt r3) (by omega)).trans r3
    rw [hA2]; exact Lib.heap_setCell_same e _
  have q4 : V.heap[n0 + 2]? = some (.cells #[.nilIface] 27 (0, 0)) := by
    have e1 := (o1.block _ (lt r4) (by omega)).trans r4
    have e := (o2.block _ (by omega) (by omega)).trans e1
    rw [hV, hA3]
    exact Lib.heap_setCell_same e _
  have oo : Only W V (fun k => k = n0 ∨ k = n0 + 1 ∨ k = n0 + 2) :=
    ((o1.mono fun _ _ c => .inl c).trans o2 (fun _ _ c => .inr (.inl c))).trans o3 (fun _ _ c => .inr (.inr c))
  refine ⟨oo.block _ hD (by omega), fun V' h' => ?_⟩
  have o' : Only V V' (fun k => k = D) := by rw [h']; exact Only.putObj _ _ _ _ rfl
  have p2 : V'.heap[n0]? = some (.cells #[.pointer (some ⟨S, 0, none⟩)] 24 (0, 0)) := (o'.block _ (by omega) (by omega)).trans ((o3.block _ (by omega) (by omega)).trans ((o2.block _ (by omega) (by omega)).trans q2))
  have p3 : V'.heap[n0 + 1]? = some (.cells #[.int .i64 m] 3 (0, 0)) := (o'.block _ (by omega) (by omega)).trans ((o3.block _ (by omega) (by omega)).trans q3)
  have p4 : V'.heap[n0 + 1 + 1]? = some (.cells #[.nilIface] 27 (0, 0)) := (o'.block _ (by omega) (by omega)).trans q4
  have oa : Only W V' (fun k => k = n0 ∨ k = n0 + 1 ∨ k = n0 + 2 ∨ k = D) := (oo.mono fun _ _ c => by omega).trans o' (fun _ _ c => by omega)
  refine ⟨by simp [World.cell?, p2], by simp [World.cell?, p3], by simp [World.cell?, p4], low.trans (oa.below (by omega) (fun k c => by omega)), by have := o'.size; omega, F, ⟨hS.book.only oa (fun k hk c => by have := hF k hk; omega), hS.many, hS.lo, hS.hi, hS.txt⟩⟩
theorem open_res {s : List UInt8} {w : World} {D S : Nat} {st : St} {i m : Nat} {V' : World} (h0 : openP st0 (linesOf s) = (st, m, 0)) (hi : i ≤ (linesOf s).length) (low : Below w.heap.size w V') (hsz : w.heap.size + 3 ≤ V'.heap.size) (hS : ∃ F, BookS V' (w.heap.size + 3) S F st i) :
    OpenRes s w (.returned (.tuple #[.pointer (some ⟨S, 0, none⟩), .int .i64 m, .nilIface])) V' := by
  obtain ⟨F, hF⟩ := hS
  refine ⟨low, .inl ⟨by rw [h0], S, F, i, w.heap.size + 3, hi, by omega, hsz, by rw [h0], by rw [h0]; exact hF⟩⟩
set_option maxRecDepth 100000 in
set_option maxHeartbeats 4000000 in
theorem Open_any (s : List UInt8) (w : World) (env : Env w) (hs : s.length ≤ 2000000) (hL : (linesOf s).length ≤ 1100000) :
    Calls Tryz.prog 11 #[.string ⟨s.toArray⟩] w fun e w' => OpenRes s w e w' := by
  have hbig := env.big
  refine (callsIn_wide (n := 3)).1 ?_
  refine callsIn_of_wp_marks Tryz.func11 rfl trivial ?_ rfl
  simp only [Tryz.ntmps11, List.size_toArray, List.length_cons, List.length_nil, Nat.reduceAdd, Nat.reduceSub, Array.replicate_succ, Array.replicate_zero, List.push_toArray, List.append_toArray, List.nil_append, List.cons_append]
  have HEnv := Lib.hid env
  have HL := Lib.hid hL
  have Hs := Lib.hid hs
  obtain ⟨Y, hY⟩ : ∃ Y : ByteArray, Y = ⟨s.toArray⟩ := ⟨_, rfl⟩
  have HY := Lib.hid hY
  rw [← hY]
  clear env hL hs hY
  gi_wp2_with (refine ⟨trivial, ?_⟩; gi_at_call 8; refine (callsIn_wide.2 (BNew_any _)).mono ?_; rintro e w1 ⟨S, rfl, hq, hb⟩)
  have HQ := Lib.hid hq
  have HB := Lib.hid hb
  clear hq hb
  gi_wp2_with (refine ⟨trivial, ?_⟩; gi_at_call 26; refine (callsIn_wide.2 (Lines_any Y _)).mono ?_; rintro e w' ⟨rfl, hw'⟩; subst hw')
  have hB1 := HB.out
  have hsz1 : w.heap.size + 3 ≤ w1.heap.size := by have := hB1.size; simp at this; omega
  obtain ⟨W5, hW5⟩ : ∃ W5, W5 = ((w1.alloc (.cells #[.pointer (some ⟨S, 0, none⟩)] 24)).alloc (.cells #[.int .i64 0] 3)).alloc (.cells #[.string Y] 9) := ⟨_, rfl⟩
  have hs5 : W5.heap.size = w1.heap.size + 3 := by rw [hW5]; simp
  have o5 : Only w1 W5 (fun _ => False) := by
    rw [hW5]; exact ((Only.alloc w1 _ _).trans (Only.alloc _ _ _) (fun _ _ c => c)).trans (Only.alloc _ _ _) (fun _ _ c => c)
  have c5 : W5.heap[w1.heap.size]? = some (.cells #[.pointer (some ⟨S, 0, none⟩)] 24 (0, 0)) := by
    rw [hW5, Below.heap_alloc _ _ _ (by simp; omega), Below.heap_alloc _ _ _ (by simp)]; exact heap_alloc_new w1 _
  have c6 : W5.heap[w1.heap.size + 1]? = some (.cells #[.int .i64 0] 3 (0, 0)) := by
    have h := heap_alloc_new (w1.alloc (.cells #[.pointer (some ⟨S, 0, none⟩)] 24)) (.cells #[.int .i64 0] 3)
    rw [World.size_alloc] at h
    rw [hW5, Below.heap_alloc _ _ _ (by simp)]; exact h
  have cb : W5.heap[w1.heap.size + 1 + 1]? = some (boxS s) := by
    have h := heap_alloc_new ((w1.alloc (.cells #[.pointer (some ⟨S, 0, none⟩)] 24)).alloc (.cells #[.int .i64 0] 3)) (.cells #[.string Y] 9)
    rw [World.size_alloc, World.size_alloc] at h
    rw [hW5]; unfold boxS; rw [← HY.out]; exact h
  have low1 : Below w.heap.size w w1 := (((Below.refl w.heap.size w).alloc (Nat.le_refl _) _).alloc (by simp) _).alloc (by simp; omega) _ |>.trans (hB1.mono (by simp; omega))
  have r2 : w1.heap[w.heap.size]? = some (.cells #[.pointer none] 24 (0, 0)) := by
    rw [hB1.block _ (by simp; omega), Below.heap_alloc _ _ _ (by simp; omega), Below.heap_alloc _ _ _ (by simp)]; exact heap_alloc_new w _
  have r3 : w1.heap[w.heap.size + 1]? = some (.cells #[.int .i64 0] 3 (0, 0)) := by
    have h := heap_alloc_new (w.alloc (.cells #[.pointer none] 24)) (.cells #[.int .i64 0] 3)
    rw [World.size_alloc] at h
    rw [hB1.block _ (by simp), Below.heap_alloc _ _ _ (by simp)]; exact h
  have r4 : w1.heap[w.heap.size + 2]? = some (.cells #[.nilIface] 27 (0, 0)) := by
    have h := heap_alloc_new ((w.alloc (.cells #[.pointer none] 24)).alloc (.cells #[.int .i64 0] 3)) (.cells #[.nilIface] 27)
    rw [World.size_alloc, World.size_alloc] at h
    rw [hB1.block _ (by simp)]; exact h
  have I5 : ∀ W6, Only W5 W6 (fun _ => False) → OpenI w.heap.size w1.heap.size (w1.heap.size + 3) S w st0 0 0 W6 := fun W6 o6 => by
    have o : Only w1 W6 (fun _ => False) := o5.trans o6 (fun _ _ c => c)
    have lt : ∀ {k : Nat} {x : Obj}, W5.heap[k]? = some x → k < W5.heap.size := fun h => (Array.getElem?_eq_some_iff.1 h).1
    have lt1 : ∀ {k : Nat} {x : Obj}, w1.heap[k]? = some x → k < w1.heap.size := fun h => (Array.getElem?_eq_some_iff.1 h).1
    have hq1 := HQ.out
    simp only [World.size_alloc] at hq1
    refine ⟨⟨fun k => w.heap.size + 3 ≤ k ∧ k < w1.heap.size, ⟨hq1.only o (fun _ _ c => c), by show (0 : Nat) ≤ 60; omega, by show (0 : Int) ≤ 0; omega, by show (0 : Int) ≤ 0; omega, by show (0 : Nat) ≤ _; omega⟩, fun k hk => .inl hk⟩, (o.block _ (lt1 r2) (fun c => c)).trans r2, (o.block _ (lt1 r3) (fun c => c)).trans r3, (o.block _ (lt1 r4) (fun c => c)).trans r4, (o6.block _ (lt c5) (fun c => c)).trans c5, (o6.block _ (lt c6) (fun c => c)).trans c6, low1.trans (o.below (by omega) (fun k c => c.elim))⟩
  have hd : w.heap.size + 3 ≤ w1.heap.size ∧ w1.heap.size + 3 = w1.heap.size + 3 := ⟨hsz1, rfl⟩
  rw [← hW5]
  clear hW5 o5 c5 c6 low1 r2 r3 r4 hB1
  refine wpIn_seqL (bs := w1.heap.size + 1 + 1) rfl (by omega) (gf := 42) (lb := #[.pointer (some ⟨w1.heap.size + 1 + 1, 0, none⟩)]) rfl trivial (enters_of Tryz.func42 (by kernel_rfl) rfl) (by omega)
    (lines_seq _ (by omega) _ s W5 cb (by have := Hs.out; omega)) (fun _ => rfl)
    (fun pre W => ∃ st', openP st0 pre = (st', pre.length, 0) ∧ OpenI w.heap.size w1.heap.size (w1.heap.size + 3) S w st' pre.length pre.length W)
    (fun c _ W => OpenX w.heap.size w1.heap.size (w1.heap.size + 3) S w (linesOf s) c W)
    (fun pre A B h o => by
      obtain ⟨st', h1, h2⟩ := h
      exact ⟨st', h1, h2.only hd (o.mono fun k _ c => by rw [hs5] at c; exact c)⟩)
    (fun c pre A B h o => h.only hd (o.mono fun k _ c => by rw [hs5] at c; exact c))
    (fun W6 o6 _ => ⟨st0, rfl, I5 W6 o6⟩)
    (fun x => { tmps := #[.string Y, undef, .pointer (some ⟨w.heap.size, 0, none⟩), .pointer (some ⟨w.heap.size + 1, 0, none⟩), .pointer (some ⟨w.heap.size + 1 + 1, 0, none⟩), .pointer (some ⟨w1.heap.size, 0, none⟩), .pointer (some ⟨w1.heap.size + 1, 0, none⟩), .string ⟨x.toArray⟩, undef, undef, undef, .pointer (some ⟨S, 0, none⟩), .string Y, .func (.func 42) #[] #[.pointer (some ⟨w1.heap.size + 1 + 1, 0, none⟩)], .string ⟨x.toArray⟩, undef, undef, undef, undef, undef, undef, undef, undef, undef, undef, undef, undef, undef, undef, undef, undef, undef, undef], defers := [] }) ?assign ?body ?done ?stop
  case assign =>
    intro l x W K hK
    gi_wp2
    exact hK
  case body =>
    rintro l pre x W ⟨st', hP, hI⟩ hpre hW2
    obtain ⟨⟨F, hS, hF⟩, r2, r3, r4, c5, c6, low⟩ := hI
    rw [hs5] at hW2 ⊢
    have hn1 : pre.length + 1 ≤ (linesOf s).length := by
      have := hpre.length_le
      simpa using this
    have hxl : x.length ≤ 2000000 := by
      have := lines_len _ s (Nat.le_refl _) x (hpre.subset (by simp))
      have := Hs.out; omega
    obtain ⟨t, ht⟩ : ∃ t, t = Lib.trimSuffix x [10] := ⟨_, rfl⟩
    have htl : t.length ≤ 2000000 := by
      rw [ht]; unfold Lib.trimSuffix
      by_cases c : Lib.hasSuffix x [10] = true
      · rw [if_pos c, List.length_take]; omega
      · rw [if_neg c]; exact hxl
    obtain ⟨n, hn⟩ : ∃ n, n = pre.length := ⟨_, rfl⟩
    rw [← hn] at hS c6
    have hn1000 : n + 1 ≤ 1100000 := by have := HL.out; omega
    have HCut : Hid (Calls Tryz.prog 27 #[.string ⟨x.toArray⟩, .string ⟨#[10]⟩] W fun e w' => e = .returned (.tuple #[.string ⟨t.toArray⟩, .bool (Lib.hasSuffix x [10])]) ∧ W = w') := Lib.hid (by
      rw [ht]
      exact (si_strings_CutSuffix ⟨x.toArray⟩ ⟨#[10]⟩ W (by rw [mk_size]; omega)).mono fun e w' ⟨h, h'⟩ => ⟨h, h'.symm⟩)
    have hc5 : W.cell? ⟨w1.heap.size, 0, none⟩ = some (.pointer (some ⟨S, 0, none⟩)) := by simp [World.cell?, c5]
    have hc6 : W.cell? ⟨w1.heap.size + 1, 0, none⟩ = some (.int .i64 n) := by simp [World.cell?, c6]
    have hf6 : W.frozen? ⟨w1.heap.size + 1, 0, none⟩ = false := by simp [World.frozen?, c6]
    have HI := Lib.hid (show OpenI w.heap.size w1.heap.size (w1.heap.size + 3) S w st' n n W from ⟨⟨F, hS, hF⟩, r2, r3, r4, c5, c6, low⟩)
    obtain ⟨X, hX⟩ : ∃ X : ByteArray, X = ⟨x.toArray⟩ := ⟨_, rfl⟩
    obtain ⟨T, hT⟩ : ∃ T : ByteArray, T = ⟨t.toArray⟩ := ⟨_, rfl⟩
    rw [← hX, ← hT] at HCut
    rw [← hX]
    cases hx : Lib.hasSuffix x [10] with
    | false =>
      rw [hx] at HCut
      have hst := openP_stop hP hpre hx
      have hend : Hid (OpenX w.heap.size w1.heap.size (w1.heap.size + 3) S w (linesOf s) (.exit 0) W) := Lib.hid (.inl ⟨rfl, by rw [hst], n, n, by omega, by rw [hst]; exact hn, by rw [hst]; exact HI.out⟩)
      clear hS hF r2 r3 r4 c5 c6 low hX hT hn ht
      gi_wp2_with (refine ⟨trivial, ?_⟩; gi_at_call 27; refine (CallsIn.inRound l (callsIn_wide.2 HCut.out)).mono ?_; rintro e w' ⟨rfl, rfl⟩)
      exact ⟨⟨rfl, rfl, rfl⟩, hend.out⟩
    | true =>
      rw [hx] at HCut
      have Hx := Lib.hid hx
      have hltW : ∀ {k : Nat} {x : Obj}, W.heap[k]? = some x → k < W.heap.size := fun h => (Array.getElem?_eq_some_iff.1 h).1
      obtain ⟨W', hW'⟩ : ∃ W', W' = W.setCell ⟨w1.heap.size + 1, 0, none⟩ (.int .i64 ((n : Int) + 1)) := ⟨_, rfl⟩
      have oW : Only W W' (fun k => k = w1.heap.size + 1) := by rw [hW']; exact Only.setCell _ _ _ _ rfl
      have hsW : W'.heap.size = W.heap.size := by rw [hW']; simp [World.setCell]
      have c5' : W'.heap[w1.heap.size]? = some (.cells #[.pointer (some ⟨S, 0, none⟩)] 24 (0, 0)) := (oW.block _ (hltW c5) (by omega)).trans c5
      have c6' : W'.heap[w1.heap.size + 1]? = some (.cells #[.int .i64 ((n : Int) + 1)] 3 (0, 0)) := by
        rw [hW']; exact Lib.heap_setCell_same c6 _
      have hc5' : W'.cell? ⟨w1.heap.size, 0, none⟩ = some (.pointer (some ⟨S, 0, none⟩)) := by simp [World.cell?, c5']
      have hS' : BookS W' (w.heap.size + 3) S F st' n := ⟨hS.book.only oW (fun k hk c => by have := hF k hk; omega), hS.many, hS.lo, hS.hi, hS.txt⟩
      have low' : Below w.heap.size w W' := low.trans (oW.below (by omega) (fun k c => by omega))
      have HLine := Lib.hid (hS'.line (by omega) (by omega) (by omega) (HEnv.out.to low') t htl)
      rw [← hT] at HLine
      have r2' : W'.heap[w.heap.size]? = some (.cells #[.pointer none] 24 (0, 0)) := (oW.block _ (hltW r2) (by omega)).trans r2
      have r3' : W'.heap[w.heap.size + 1]? = some (.cells #[.int .i64 0] 3 (0, 0)) := (oW.block _ (hltW r3) (by omega)).trans r3
      have r4' : W'.heap[w.heap.size + 2]? = some (.cells #[.nilIface] 27 (0, 0)) := (oW.block _ (hltW r4) (by omega)).trans r4
      have oW' : ∀ k, k < W.heap.size → k ≠ w1.heap.size + 1 → W'.heap[k]? = W.heap[k]? := fun k h1 h2 => oW.block k h1 h2
      have keyW : Hid (∀ (code : Int) (W2 : World), code = (lineP st' t).2 → BookS W2 (w.heap.size + 3) S (Grow F W' W2) (lineP st' t).1 (n + 1) → Only W' W2 F →
          (W2.heap[w1.heap.size + 1 + 1]? = W.heap[w1.heap.size + 1 + 1]? ∧ W2.heap[w1.heap.size + 3]? = W.heap[w1.heap.size + 3]? ∧ W2.heap[w1.heap.size + 3 + 1]? = W.heap[w1.heap.size + 3 + 1]?) ∧ OpenI w.heap.size w1.heap.size (w1.heap.size + 3) S w (lineP st' t).1 (n + 1) (n + 1) W2) := Lib.hid fun code W2 _ hS2 o2 => by
        have nF : ∀ k, F k → (w.heap.size + 3 ≤ k ∧ k < w1.heap.size) ∨ w1.heap.size + 3 + 2 ≤ k := hF
        have go : ∀ k, k < W'.heap.size → ¬ ((w.heap.size + 3 ≤ k ∧ k < w1.heap.size) ∨ w1.heap.size + 3 + 2 ≤ k) → W2.heap[k]? = W'.heap[k]? := fun k h1 h2 => o2.block k h1 (fun c => h2 (nF k c))
        refine ⟨⟨?_, ?_, ?_⟩, ⟨⟨_, hS2, fun k hk => ?_⟩, ?_, ?_, ?_, ?_, ?_, ?_⟩⟩
        · exact (go _ (by omega) (by omega)).trans (oW' _ (by omega) (by omega))
        · exact (go _ (by omega) (by omega)).trans (oW' _ (by omega) (by omega))
        · exact (go _ (by omega) (by omega)).trans (oW' _ (by omega) (by omega))
        · rcases hk with hk | hk
          · exact hF k hk
          · exact .inr (by omega)
        · exact (go _ (by omega) (by omega)).trans r2'
        · exact (go _ (by omega) (by omega)).trans r3'
        · exact (go _ (by omega) (by omega)).trans r4'
        · exact (go _ (by omega) (by omega)).trans c5'
        · rw [go _ (by omega) (by omega), c6']; simp
        · exact low'.trans (o2.below (by omega) (fun k c => by have := nF k c; omega))
      obtain ⟨code, hcode⟩ : ∃ c, c = (lineP st' t).2 := ⟨_, rfl⟩
      have HCode := Lib.hid hcode
      have hLine : Hid (Calls Tryz.prog 28 #[.pointer (some ⟨S, 0, none⟩), .string T] W' fun e w' => e = .returned (errV 56 code) ∧ BookS w' (w.heap.size + 3) S (Grow F W' w') (lineP st' t).1 (n + 1) ∧ Only W' w' F) := Lib.hid (by rw [hcode]; exact HLine.out)
      have hn64 : (n : Int) + 1 ≤ 9223372036854775807 := by omega
      have hnext : Hid (code = 0 → openP st0 (pre ++ [x]) = ((lineP st' t).1, (pre ++ [x]).length, 0)) := Lib.hid fun h => by
        rw [ht]; exact openP_next hP Hx.out (by rw [← ht, ← hcode]; exact h)
      have hfault : Hid (code ≠ 0 → openP st0 (linesOf s) = ((lineP st' t).1, n + 1, code)) := Lib.hid fun h => by
        rw [openP_fault hP hpre Hx.out (by rw [← ht, ← hcode]; exact h), ← ht, ← hcode, ← hn]
      have Hn := Lib.hid hn
      subst hW'
      clear hS hF r2 r3 r4 c5 c6 low hX hT ht hcode HLine hS' low' oW oW' c5' c6' r2' r3' r4' hP hpre hn hx hsW hn1 hxl htl
      gi_wp2_with (refine ⟨trivial, ?_⟩; gi_at_call 27; refine (CallsIn.inRound l (callsIn_wide.2 HCut.out)).mono ?_; rintro e w' ⟨rfl, rfl⟩)
      refine ⟨trivial, ?_⟩
      refine (CallsIn.inRound l (callsIn_wide.2 hLine.out)).mono ?_
      rintro e W2 ⟨rfl, hS2, o2⟩
      obtain ⟨hkeep, hI2⟩ := keyW.out code W2 HCode.out hS2 o2
      have HK := Lib.hid hkeep
      have HI2b : Hid (w1.heap.size + 3 + 2 ≤ W2.heap.size) := Lib.hid (by have := o2.size; rw [show (W.setCell ⟨w1.heap.size + 1, 0, none⟩ (.int .i64 ((n : Int) + 1))).heap.size = W.heap.size by simp [World.setCell]] at this; omega)
      have HI2 := Lib.hid hI2
      clear hS2 o2 hkeep
      by_cases hc : code = 0
      · have hcx := hnext.out hc
        have HX := Lib.hid hcx
        clear hcx hI2
        rw [hc, errV_ok]
        gi_wp2
        have hlen : (pre ++ [x]).length = n + 1 := by have := Hn.out; simp; omega
        exact ⟨HK.out, (lineP st' t).1, HX.out, by rw [hlen]; exact HI2.out⟩
      · have hcx := Lib.hid (hfault.out hc)
        rw [errV_bad hc]
        obtain ⟨-, r2, r3, r4, -, c6, low⟩ := hI2
        have hc6 : W2.cell? ⟨w1.heap.size + 1, 0, none⟩ = some (.int .i64 ((n + 1 : Nat) : Int)) := by simp [World.cell?, c6]
        have f2 : W2.frozen? ⟨w.heap.size, 0, none⟩ = false := by simp [World.frozen?, r2]
        have f3 : W2.frozen? ⟨w.heap.size + 1, 0, none⟩ = false := by simp [World.frozen?, r3]
        have f4 : W2.frozen? ⟨w.heap.size + 2, 0, none⟩ = false := by simp [World.frozen?, r4]
        have v2 : W2.cell? ⟨w.heap.size, 0, none⟩ = some (.pointer none) := by simp [World.cell?, r2]
        have v3 : W2.cell? ⟨w.heap.size + 1, 0, none⟩ = some (.int .i64 0) := by simp [World.cell?, r3]
        have v4 : W2.cell? ⟨w.heap.size + 2, 0, none⟩ = some .nilIface := by simp [World.cell?, r4]
        have R2 := Lib.hid r2
        have R3 := Lib.hid r3
        have R4 := Lib.hid r4
        have fin : Hid (∀ W3, W3 = (((W2.setCell ⟨w.heap.size, 0, none⟩ (.pointer none)).setCell ⟨w.heap.size + 1, 0, none⟩ (.int .i64 ((n : Int) + 1))).setCell ⟨w.heap.size + 1 + 1, 0, none⟩ (.iface 56 (.int .i64 code))).drew →
            (W3.heap[w1.heap.size + 1 + 1]? = W.heap[w1.heap.size + 1 + 1]? ∧ W3.heap[w1.heap.size + 3]? = W.heap[w1.heap.size + 3]? ∧ W3.heap[w1.heap.size + 3 + 1]? = W.heap[w1.heap.size + 3 + 1]?) ∧ OpenX w.heap.size w1.heap.size (w1.heap.size + 3) S w (linesOf s) .ret W3) := Lib.hid fun W3 h3 => by
          obtain ⟨A1, hA1⟩ : ∃ A1, A1 = W2.setCell ⟨w.heap.size, 0, none⟩ (.pointer none) := ⟨_, rfl⟩
          obtain ⟨A2, hA2⟩ : ∃ A2, A2 = A1.setCell ⟨w.heap.size + 1, 0, none⟩ (.int .i64 ((n : Int) + 1)) := ⟨_, rfl⟩
          obtain ⟨A3, hA3⟩ : ∃ A3, A3 = A2.setCell ⟨w.heap.size + 1 + 1, 0, none⟩ (.iface 56 (.int .i64 code)) := ⟨_, rfl⟩
          rw [← hA1, ← hA2, ← hA3] at h3
          have o1 : Only W2 A1 (fun k => k = w.heap.size) := by rw [hA1]; exact Only.setCell _ _ _ _ rfl
          have o2 : Only A1 A2 (fun k => k = w.heap.size + 1) := by rw [hA2]; exact Only.setCell _ _ _ _ rfl
          have o3 : Only A2 W3 (fun k => k = w.heap.size + 2) := by
            have : Only A2 A3 (fun k => k = w.heap.size + 2) := by rw [hA3]; exact Only.setCell _ _ _ _ rfl
            rw [h3]; exact this.drewN 1
          have lt2 : ∀ {k : Nat} {x : Obj}, W2.heap[k]? = some x → k < W2.heap.size := fun h => (Array.getElem?_eq_some_iff.1 h).1
          have s1 := o1.size
          have s2 := o2.size
          have q2 : A1.heap[w.heap.size]? = some (.cells #[.pointer none] 24 (0, 0)) := by rw [hA1]; exact Lib.heap_setCell_same r2 _
          have q3 : A2.heap[w.heap.size + 1]? = some (.cells #[.int .i64 ((n : Int) + 1)] 3 (0, 0)) := by
            have e := (o1.block _ (lt2 r3) (by omega)).trans r3
            rw [hA2]; exact Lib.heap_setCell_same e _
          have q4 : W3.heap[w.heap.size + 2]? = some (.cells #[.iface 56 (.int .i64 code)] 27 (0, 0)) := by
            have e1 := (o1.block _ (lt2 r4) (by omega)).trans r4
            have e := (o2.block _ (by have := lt2 r4; omega) (by omega)).trans e1
            rw [h3, hA3]
            exact Lib.heap_setCell_same e _
          have oo : Only W2 W3 (fun k => k = w.heap.size ∨ k = w.heap.size + 1 ∨ k = w.heap.size + 2) :=
            ((o1.mono fun _ _ c => .inl c).trans o2 (fun _ _ c => .inr (.inl c))).trans o3 (fun _ _ c => .inr (.inr c))
          have hlt6 := lt2 c6
          have hsz2 : w1.heap.size + 3 + 2 ≤ W2.heap.size := HI2b.out
          have hk := HK.out
          refine ⟨⟨(oo.block _ (by omega) (by omega)).trans hk.1, (oo.block _ (by omega) (by omega)).trans hk.2.1, (oo.block _ (by omega) (by omega)).trans hk.2.2⟩, .inr ⟨rfl, ?_, ?_, ?_, ?_, low.trans (oo.below (by omega) (fun k c => by omega))⟩⟩
          · rw [hcx.out]; exact hc
          · exact (o3.block _ (by omega) (by omega)).trans ((o2.block _ (by omega) (by omega)).trans q2)
          · rw [hcx.out]
            have e := (o3.block _ (by omega) (by omega)).trans q3
            rw [e]; simp
          · rw [hcx.out]; exact q4
        clear r2 r3 r4 c6 low
        gi_wp2
        have hmx : Tryz.prog.follows .mixedOrders = true := by kernel_rfl
        gi_region_with_o fail
        all_goals gi_wp2
        all_goals exact fin.out _ rfl
  case done =>
    rintro W ⟨st', hP, hI⟩ hK
    rw [hs5] at hK ⊢
    have hlen : (linesOf s).length ≤ (linesOf s).length := Nat.le_refl _
    obtain ⟨m, hm⟩ : ∃ m, m = (linesOf s).length := ⟨_, rfl⟩
    rw [← hm] at hP hI
    replace hlen : m ≤ (linesOf s).length := by rw [hm]; exact hlen
    clear hm
    have hRes : ∀ V', Below w.heap.size w V' → w.heap.size + 3 ≤ V'.heap.size → (∃ F, BookS V' (w.heap.size + 3) S F st' m) → OpenRes s w (.returned (.tuple #[.pointer (some ⟨S, 0, none⟩), .int .i64 m, .nilIface])) V' := fun V' a b c => open_res (D := 0) hP hlen a b c
    clear hP
    have hDW : w1.heap.size + 3 < W.heap.size := (Array.getElem?_eq_some_iff.1 hK).1
    have HEnd := Lib.hid (open_end hd hI hDW)
    have HRes := Lib.hid hRes
    obtain ⟨-, r2, r3, r4, c5, c6, low⟩ := hI
    have hc5 : W.cell? ⟨w1.heap.size, 0, none⟩ = some (.pointer (some ⟨S, 0, none⟩)) := by simp [World.cell?, c5]
    have hc6 : W.cell? ⟨w1.heap.size + 1, 0, none⟩ = some (.int .i64 m) := by simp [World.cell?, c6]
    have f2 : W.frozen? ⟨w.heap.size, 0, none⟩ = false := by simp [World.frozen?, r2]
    have f3 : W.frozen? ⟨w.heap.size + 1, 0, none⟩ = false := by simp [World.frozen?, r3]
    have f4 : W.frozen? ⟨w.heap.size + 2, 0, none⟩ = false := by simp [World.frozen?, r4]
    have v2 : W.cell? ⟨w.heap.size, 0, none⟩ = some (.pointer none) := by simp [World.cell?, r2]
    have v3 : W.cell? ⟨w.heap.size + 1, 0, none⟩ = some (.int .i64 0) := by simp [World.cell?, r3]
    have v4 : W.cell? ⟨w.heap.size + 2, 0, none⟩ = some .nilIface := by simp [World.cell?, r4]
    have hmx : Tryz.prog.follows .mixedOrders = true := by kernel_rfl
    have HK := Lib.hid hK
    clear hRes r2 r3 r4 c5 c6 low hK
    gi_wp2
    gi_region
    gi_wp2
    obtain ⟨V, hV⟩ : ∃ V, V = (((W.setCell ⟨w.heap.size, 0, none⟩ (.pointer (some ⟨S, 0, none⟩))).setCell ⟨w.heap.size + 1, 0, none⟩ (.int .i64 m)).setCell ⟨w.heap.size + 1 + 1, 0, none⟩ .nilIface).drew := ⟨_, rfl⟩
    rw [← hV]
    obtain ⟨hk1, hk2⟩ := HEnd.out V hV
    obtain ⟨p2, p3, p4, plow, psz, pS⟩ := hk2 _ rfl
    refine ⟨by simp, .inl ⟨_, _, rfl, run_takeDeferred (hk1.trans HK.out), ?_⟩⟩
    refine ⟨_, ?_, HRes.out _ plow psz pS⟩
    simp [results, Tryz.f11, go_sem, p2, p3, p4]
  case stop =>
    rintro c pre W hpre hX hK
    rw [hs5] at hK ⊢
    rcases hX with ⟨rfl, h2, i, m, h3, h4, hI⟩ | ⟨rfl, h2, r2, r3, r4, low⟩
    · have hP : openP st0 (linesOf s) = ((openP st0 (linesOf s)).1, m, 0) := by rw [h4, ← h2]
      generalize (openP st0 (linesOf s)).1 = st' at hP hI
      have hRes : ∀ V', Below w.heap.size w V' → w.heap.size + 3 ≤ V'.heap.size → (∃ F, BookS V' (w.heap.size + 3) S F st' i) → OpenRes s w (.returned (.tuple #[.pointer (some ⟨S, 0, none⟩), .int .i64 m, .nilIface])) V' := fun V' a b c => open_res (D := 0) hP h3 a b c
      clear hP h2 h4
      have hDW : w1.heap.size + 3 < W.heap.size := (Array.getElem?_eq_some_iff.1 hK).1
      have HEnd := Lib.hid (open_end hd hI hDW)
      have HRes := Lib.hid hRes
      obtain ⟨-, r2, r3, r4, c5, c6, low⟩ := hI
      have hc5 : W.cell? ⟨w1.heap.size, 0, none⟩ = some (.pointer (some ⟨S, 0, none⟩)) := by simp [World.cell?, c5]
      have hc6 : W.cell? ⟨w1.heap.size + 1, 0, none⟩ = some (.int .i64 m) := by simp [World.cell?, c6]
      have f2 : W.frozen? ⟨w.heap.size, 0, none⟩ = false := by simp [World.frozen?, r2]
      have f3 : W.frozen? ⟨w.heap.size + 1, 0, none⟩ = false := by simp [World.frozen?, r3]
      have f4 : W.frozen? ⟨w.heap.size + 2, 0, none⟩ = false := by simp [World.frozen?, r4]
      have v2 : W.cell? ⟨w.heap.size, 0, none⟩ = some (.pointer none) := by simp [World.cell?, r2]
      have v3 : W.cell? ⟨w.heap.size + 1, 0, none⟩ = some (.int .i64 0) := by simp [World.cell?, r3]
      have v4 : W.cell? ⟨w.heap.size + 2, 0, none⟩ = some .nilIface := by simp [World.cell?, r4]
      have hmx : Tryz.prog.follows .mixedOrders = true := by kernel_rfl
      have HK := Lib.hid hK
      clear hRes r2 r3 r4 c5 c6 low hK
      gi_wp2
      gi_region
      gi_wp2
      obtain ⟨V, hV⟩ : ∃ V, V = (((W.setCell ⟨w.heap.size, 0, none⟩ (.pointer (some ⟨S, 0, none⟩))).setCell ⟨w.heap.size + 1, 0, none⟩ (.int .i64 m)).setCell ⟨w.heap.size + 1 + 1, 0, none⟩ .nilIface).drew := ⟨_, rfl⟩
      rw [← hV]
      obtain ⟨hk1, hk2⟩ := HEnd.out V hV
      obtain ⟨p2, p3, p4, plow, psz, pS⟩ := hk2 _ rfl
      refine ⟨by simp, .inl ⟨_, _, rfl, run_takeDeferred (hk1.trans HK.out), ?_⟩⟩
      refine ⟨_, ?_, HRes.out _ plow psz pS⟩
      simp [results, Tryz.f11, go_sem, p2, p3, p4]
    · have hDW : w1.heap.size + 3 < W.heap.size := (Array.getElem?_eq_some_iff.1 hK).1
      have o' : Only W (W.putObj (w1.heap.size + 3) (.deferred none)) (fun k => k = w1.heap.size + 3) := Only.putObj _ _ _ _ rfl
      have p2 : (W.putObj (w1.heap.size + 3) (.deferred none)).cell? ⟨w.heap.size, 0, none⟩ = some (.pointer none) := by
        have := (o'.block _ (by omega) (by omega)).trans r2
        simp [World.cell?, this]
      have p3 : (W.putObj (w1.heap.size + 3) (.deferred none)).cell? ⟨w.heap.size + 1, 0, none⟩ = some (.int .i64 (openP st0 (linesOf s)).2.1) := by
        have := (o'.block _ (by omega) (by omega)).trans r3
        simp [World.cell?, this]
      have p4 : (W.putObj (w1.heap.size + 3) (.deferred none)).cell? ⟨w.heap.size + 1 + 1, 0, none⟩ = some (.iface 56 (.int .i64 (openP st0 (linesOf s)).2.2)) := by
        have := (o'.block (w.heap.size + 2) (by omega) (by omega)).trans r4
        simp [World.cell?, this]
      have hres : Hid (OpenRes s w (.returned (.tuple #[.pointer none, .int .i64 (openP st0 (linesOf s)).2.1, .iface 56 (.int .i64 (openP st0 (linesOf s)).2.2)])) (W.putObj (w1.heap.size + 3) (.deferred none))) :=
        Lib.hid ⟨low.trans (o'.below (by omega) (fun k c => by omega)), .inr ⟨h2, rfl⟩⟩
      have HK := Lib.hid hK
      clear r2 r3 r4 low hK o'
      gi_wp2
      refine ⟨by simp, .inl ⟨_, _, rfl, run_takeDeferred HK.out, ?_⟩⟩
      refine ⟨_, ?_, hres.out⟩
      simp [results, Tryz.f11, go_sem, p2, p3, p4]
end Go.Proofs.YtfejlkgddnamoaaGreatDoor
