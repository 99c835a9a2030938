/- WALK: two books side by side. -/
import Derived.Test.YtalnepcbaegaeaaDoorBkFact
import Derived.Test.YtalnepcbaegaeaaDoorBkOpen
set_option linter.unusedVariables false
set_option linter.unusedSimpArgs false
namespace Go.Proofs.YtalnepcbaegaeaaDoor
open Go Go.RowKit SimPlain HeapPlain BookPlain NumPlain SpPlain LinesPlain

theorem BookS.upto {w : World} {B S : Nat} {F : Nat → Prop} {s : St} {i n : Nat} (h : BookS w B S F s i) (hn : i ≤ n) : BookS w B S F s n :=
  ⟨h.book, h.many, h.lo, by have := h.hi; omega, by have := h.txt; omega⟩
theorem BookS.only {w w' : World} {B S : Nat} {F own : Nat → Prop} {s : St} {i : Nat} (h : BookS w B S F s i) (o : Only w w' own) (hF : ∀ k, F k → ¬ own k) : BookS w' B S F s i :=
  ⟨h.book.only o hF, h.many, h.lo, h.hi, h.txt⟩
theorem EtOwn.toA {w : World} {B : Nat} {a : Option Addr} {c : Nat} {l : List Ev} (h : EtOwn w B a c l) : EvA w a l := by
  rcases Nat.eq_zero_or_pos l.length with h0 | h0
  · exact .inl (List.eq_nil_of_length_eq_zero h0)
  · obtain ⟨g, rfl, _, hg, hc⟩ := h.open h0
    exact .inr ⟨g, 0, rfl, hg, fun i hi => by simpa using hc i hi⟩
structure Pair (w W : World) (S1 : Nat) (s1 : St) (n1 : Nat) (S2 : Nat) (s2 : St) (n2 : Nat) : Prop where
  ex : ∃ B1 F1 B2 F2, BookS W B1 S1 F1 s1 n1 ∧ BookS W B2 S2 F2 s2 n2 ∧ (∀ k, F1 k → ¬ F2 k) ∧ w.heap.size ≤ B1 ∧ B1 ≤ W.heap.size ∧ w.heap.size ≤ B2 ∧ B2 ≤ W.heap.size
  low : Below w.heap.size w W
theorem Pair.swap {w W : World} {S1 : Nat} {s1 : St} {n1 : Nat} {S2 : Nat} {s2 : St} {n2 : Nat} (h : Pair w W S1 s1 n1 S2 s2 n2) : Pair w W S2 s2 n2 S1 s1 n1 := by
  obtain ⟨⟨B1, F1, B2, F2, h1, h2, hd, a1, a2, a3, a4⟩, low⟩ := h
  exact ⟨⟨B2, F2, B1, F1, h2, h1, fun k c d => hd k d c, a3, a4, a1, a2⟩, low⟩
/-- one of them goes on, within its own blocks and new ones -/
theorem pair_on {w W W' : World} {S1 : Nat} {s1' : St} {n1' : Nat} {S2 : Nat} {s2 : St} {n2 : Nat} {B1 B2 : Nat} {F1 F2 : Nat → Prop} (h2 : BookS W B2 S2 F2 s2 n2) (hd : ∀ k, F1 k → ¬ F2 k) (a1 : w.heap.size ≤ B1) (a2 : B1 ≤ W.heap.size) (a3 : w.heap.size ≤ B2) (a4 : B2 ≤ W.heap.size)
    (low : Below w.heap.size w W) (hf1 : ∀ k, F1 k → B1 ≤ k ∧ k < W.heap.size) (h1' : BookS W' B1 S1 (Grow F1 W W') s1' n1') (o : Only W W' F1) : Pair w W' S1 s1' n1' S2 s2 n2 := by
  have hsz := o.size
  refine ⟨⟨B1, Grow F1 W W', B2, F2, h1', h2.only o (fun k c d => hd k d c), fun k c d => ?_, a1, by omega, a3, by omega⟩, low.trans (o.below low.size (fun k c => by have := hf1 k c; omega))⟩
  rcases c with c | c
  · exact hd k c d
  · have := (h2.book.fb k d).2; omega
theorem Pair.text1 {w W : World} {S1 : Nat} {s1 : St} {n1 : Nat} {S2 : Nat} {s2 : St} {n2 : Nat} (h : Pair w W S1 s1 n1 S2 s2 n2) :
    Calls Tryd.prog 14 #[.pointer (some ⟨S1, 0, none⟩)] W fun e w' => e = .returned (.string ⟨s1.T.toArray⟩) ∧ Pair w w' S1 s1 n1 S2 s2 n2 := by
  obtain ⟨⟨B1, F1, B2, F2, h1, h2, hd, a1, a2, a3, a4⟩, low⟩ := h
  refine (BText_any S1 B1 F1 s1.q s1.seq s1.T W h1.book).mono ?_
  rintro e w' ⟨rfl, hq, o⟩
  have hsz := o.size
  exact ⟨rfl, ⟨B1, F1, B2, F2, ⟨hq, h1.many, h1.lo, h1.hi, h1.txt⟩, h2.only o (fun k c d => hd k d c), hd, a1, by omega, a3, by omega⟩, low.trans (o.below low.size (fun k c => by have := (h1.book.fb k c).1; omega))⟩
theorem Pair.many1 {w W : World} {S1 : Nat} {s1 : St} {n1 : Nat} {S2 : Nat} {s2 : St} {n2 : Nat} (h : Pair w W S1 s1 n1 S2 s2 n2) :
    Calls Tryd.prog 13 #[.pointer (some ⟨S1, 0, none⟩)] W fun e w' => e = .returned (.int .i64 s1.q.length) ∧ W = w' := by
  obtain ⟨⟨B1, F1, B2, F2, h1, h2, hd, a1, a2, a3, a4⟩, low⟩ := h
  exact BMany_any S1 B1 F1 s1.q s1.seq s1.T W h1.book h1.many
theorem Pair.push1 {w W : World} {S1 : Nat} {s1 : St} {n1 : Nat} {S2 : Nat} {s2 : St} {n2 : Nat} (h : Pair w W S1 s1 n1 S2 s2 n2) (env : Env w) (hn : n1 ≤ 1100000) (key id : Int) :
    Calls Tryd.prog 12 #[.pointer (some ⟨S1, 0, none⟩), .agg #[.int .i64 key, .int .i64 id]] W fun e w' => e = .returned (errV 64 (pcode s1 ⟨key, id, 0⟩)) ∧ Pair w w' S1 (pushS s1 ⟨key, id, 0⟩) (n1 + 1) S2 s2 n2 := by
  obtain ⟨⟨B1, F1, B2, F2, h1, h2, hd, a1, a2, a3, a4⟩, low⟩ := h
  have hbig := env.big
  refine (h1.push_any hn a2 (by omega) (env.to low).tab key id).mono ?_
  rintro e w' ⟨rfl, hS, o⟩
  exact ⟨rfl, pair_on h2 hd a1 a2 a3 a4 low h1.book.fb hS o⟩
theorem Pair.pop1 {w W : World} {S1 : Nat} {s1 : St} {n1 : Nat} {S2 : Nat} {s2 : St} {n2 : Nat} (h : Pair w W S1 s1 n1 S2 s2 n2) (env : Env w) (hn : n1 ≤ 1100000) :
    Calls Tryd.prog 9 #[.pointer (some ⟨S1, 0, none⟩)] W fun e w' => ∃ k d, e = .returned (.tuple #[.agg #[.int .i64 k, .int .i64 d], errV 64 (popS s1).2]) ∧ Pair w w' S1 (popS s1).1 (n1 + 1) S2 s2 n2 := by
  obtain ⟨⟨B1, F1, B2, F2, h1, h2, hd, a1, a2, a3, a4⟩, low⟩ := h
  refine (h1.pop_any hn a2 (env.to low).tab).mono ?_
  rintro e w' ⟨k, d, rfl, hS, o⟩
  exact ⟨k, d, rfl, pair_on h2 hd a1 a2 a3 a4 low h1.book.fb hS o⟩
theorem Pair.below {w W W' : World} {S1 : Nat} {s1 : St} {n1 : Nat} {S2 : Nat} {s2 : St} {n2 : Nat} (h : Pair w W S1 s1 n1 S2 s2 n2) (b : Below W.heap.size W W') : Pair w W' S1 s1 n1 S2 s2 n2 := by
  obtain ⟨⟨B1, F1, B2, F2, h1, h2, hd, a1, a2, a3, a4⟩, low⟩ := h
  have hsz := b.size
  have o := only_of_below b (fun _ => False)
  exact ⟨⟨B1, F1, B2, F2, h1.only o (fun _ _ c => c), h2.only o (fun _ _ c => c), hd, a1, by omega, a3, by omega⟩, low.trans (b.mono low.size)⟩
/-- the first one emptied -/
structure PairD (w W : World) (S2 : Nat) (s2 : St) (n2 : Nat) (a : Option Addr) (q : List Ev) : Prop where
  ex : ∃ R c B2 F2, EtOwn W R a c q ∧ BookS W B2 S2 F2 s2 n2 ∧ (∀ k, F2 k → k < R) ∧ w.heap.size ≤ B2 ∧ B2 ≤ W.heap.size
  low : Below w.heap.size w W
theorem Pair.drain1 {w W : World} {S1 : Nat} {s1 : St} {n1 : Nat} {S2 : Nat} {s2 : St} {n2 : Nat} (h : Pair w W S1 s1 n1 S2 s2 n2) (env : Env w) (hn : n1 ≤ 1100000) :
    Calls Tryd.prog 18 #[.pointer (some ⟨S1, 0, none⟩)] W fun e w' => ∃ a c, e = .returned (.slice a s1.q.length c) ∧ PairD w w' S2 s2 n2 a s1.q := by
  obtain ⟨⟨B1, F1, B2, F2, h1, h2, hd, a1, a2, a3, a4⟩, low⟩ := h
  have hbig := env.big
  refine (drained_any S1 B1 F1 s1.q s1.seq s1.T W h1.book h1.many a2 (by omega) (env.to low).tab (by have := h1.txt; omega)).mono ?_
  rintro e w' ⟨F', T', a, c, rfl, hD⟩
  have hsz := hD.only.size
  exact ⟨a, c, rfl, ⟨W.heap.size, c, B2, F2, hD.row, h2.only hD.only (fun k c d => hd k d c), fun k c => (h2.book.fb k c).2, a3, by omega⟩, low.trans (hD.only.below low.size (fun k c => by have := (h1.book.fb k c).1; omega))⟩
theorem PairD.drain2 {w W : World} {S2 : Nat} {s2 : St} {n2 : Nat} {a : Option Addr} {q : List Ev} (h : PairD w W S2 s2 n2 a q) (env : Env w) (hn : n2 ≤ 1100000) :
    Calls Tryd.prog 18 #[.pointer (some ⟨S2, 0, none⟩)] W fun e w' => ∃ a' c', e = .returned (.slice a' s2.q.length c') ∧ EvA w' a q ∧ EvA w' a' s2.q ∧ Below w.heap.size w w' := by
  obtain ⟨⟨R, c, B2, F2, hr, h2, hR, a3, a4⟩, low⟩ := h
  have hbig := env.big
  refine (drained_any S2 B2 F2 s2.q s2.seq s2.T W h2.book h2.many a4 (by omega) (env.to low).tab (by have := h2.txt; omega)).mono ?_
  rintro e w' ⟨F', T', a', c', rfl, hD⟩
  exact ⟨a', c', rfl, (hr.only hD.only hR).toA, hD.row.toA, low.trans (hD.only.below low.size (fun k c => by have := (h2.book.fb k c).1; omega))⟩
theorem pair_items (q : List Ev) (a a' : Option Addr) (c c' : Nat) (W : World) (h60 : q.length ≤ 100) (h : EvA W a q) (h' : EvA W a' q) :
    Calls Tryd.prog 17 #[.slice a q.length c, .slice a' q.length c'] W fun e w' => e = .returned (.bool true) ∧ ∃ n, w' = W.drewN n :=
  Items_same q q a a' c c' q.length W rfl rfl h60 h h' (fun _ _ => ⟨rfl, rfl⟩)
/-! what a session wrote, opened -/
theorem told_log (l : List Ev) : Goods st0 (logOf st0 l) ∧ runC st0 (logOf st0 l) = toldB l ∧ (toldB l).T = (logOf st0 l).flatMap cmdL := by
  obtain ⟨h1, h2⟩ := logOf_run l st0
  have h3 : runC st0 (logOf st0 l) = toldB l := h2
  refine ⟨h1, h3, ?_⟩
  rw [← h3, runC_T _ _ h1]; rfl
theorem told_open (l : List Ev) : openP st0 (linesOf (toldB l).T) = (toldB l, (logOf st0 l).length, 0) ∧ (linesOf (toldB l).T).length ≤ l.length := by
  obtain ⟨h1, h2, h3⟩ := told_log l
  have h4 := linesOf_cmds (logOf st0 l) [] (by simp)
  rw [List.append_nil] at h4
  rw [h3, h4]
  refine ⟨?_, ?_⟩
  · rw [openP_cmds _ _ _ h1 (by simp), h2]
  · have := logOf_len l st0
    simp [tail1]; exact this
theorem told_txt {w : World} {B S : Nat} {F : Nat → Prop} {s : St} {i : Nat} (h : BookS w B S F s i) (hi : i ≤ 1000) : s.T.length ≤ 100000 := by
  have := h.txt; omega
end Go.Proofs.YtalnepcbaegaeaaDoor
