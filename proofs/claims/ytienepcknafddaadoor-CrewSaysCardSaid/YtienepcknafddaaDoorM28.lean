/- WALK: gather: its loop that starts the workers. · WALK: gather: the loop that starts the workers, walked. · WALK: gather: what it knows while it collects. · WALK: gather: the loop that hears the workers out, walked. -/
import Derived.Test.YtienepcknafddaaDoorM27
section
set_option linter.unusedVariables false
set_option linter.unusedSimpArgs false
set_option linter.unusedVariables false
set_option linter.unusedSimpArgs false
namespace SimPlain
theorem roundP_single : ∀ {ls : List (List Ev)} {k : Nat} {A : List Ev}, 2 * k + 1 = ls.length → ls[2 * k]? = some A → (roundP ls)[k]? = some A
  | [], _, _, h, _ => by simp at h
  | [B], 0, A, _, h => by simpa [roundP] using h
  | [B], k + 1, A, h, _ => by simp at h
  | B :: C :: r, 0, A, h, _ => by simp at h
  | B :: C :: r, k + 1, A, h, h2 => by
    simp only [roundP, List.getElem?_cons_succ]
    refine roundP_single (by simp only [List.length_cons] at h; omega) ?_
    rw [show 2 * (k + 1) = 2 * k + 1 + 1 by omega, List.getElem?_cons_succ, List.getElem?_cons_succ] at h2
    exact h2
theorem roundP_pair : ∀ {ls : List (List Ev)} {k : Nat} {A B : List Ev}, ls[2 * k]? = some A → ls[2 * k + 1]? = some B → (roundP ls)[k]? = some (mergeP A B)
  | [], _, _, _, h, _ => by simp at h
  | [C], 0, A, B, _, h => by simp at h
  | [C], k + 1, A, B, h, _ => by simp at h
  | C :: D :: r, 0, A, B, h, h2 => by
    simp only [Nat.mul_zero, List.getElem?_cons_zero, Option.some.injEq, Nat.zero_add, List.getElem?_cons_succ] at h h2
    subst h h2
    simp [roundP]
  | C :: D :: r, k + 1, A, B, h, h2 => by
    simp only [roundP, List.getElem?_cons_succ]
    rw [show 2 * (k + 1) = 2 * k + 1 + 1 by omega, List.getElem?_cons_succ, List.getElem?_cons_succ] at h
    rw [show 2 * (k + 1) + 1 = 2 * k + 1 + 1 + 1 by omega, List.getElem?_cons_succ, List.getElem?_cons_succ] at h2
    exact roundP_pair h h2
theorem roundP_len : ∀ (ls : List (List Ev)), (roundP ls).length = (ls.length + 1) / 2
  | [] => rfl
  | [A] => by simp [roundP]
  | A :: B :: r => by simp only [roundP, List.length_cons, roundP_len r]; omega
theorem two_len : ∀ {ls : List (List Ev)} {i : Nat} {A B : List Ev}, ls[i]? = some A → ls[i + 1]? = some B → A.length + B.length ≤ ls.flatten.length
  | [], _, _, _, h, _ => by simp at h
  | C :: r, 0, A, B, h, h2 => by
    simp only [List.getElem?_cons_zero, Option.some.injEq, List.getElem?_cons_succ] at h h2
    subst h
    have : B.length ≤ r.flatten.length := by
      have := List.mem_of_getElem? h2
      exact (List.sublist_flatten_of_mem this).length_le
    simp only [List.flatten_cons, List.length_append]; omega
  | C :: r, i + 1, A, B, h, h2 => by
    simp only [List.getElem?_cons_succ] at h h2
    have := two_len h h2
    simp only [List.flatten_cons, List.length_append]; omega
end SimPlain
namespace Go.Proofs.YtienepcknafddaaDoor
open Go Go.RowKit Go.Conc Co Cr SimPlain HeapPlain SymPlain
open Go.ConcM

theorem stepLA {m : Bool} {b : Frame} {a : _root_.Go.Act} {k : List Item} {cs : List Frame} {w : World} : stepG Tryd.prog m (G (b.at a (.code LA :: k)) cs) w = .go (G (b.at a (.code (.region 4 rg4 false) :: .code (.seq (.cond (.tmp 20) .skip (.exit 2)) (.seq (.block 3 (.seq (.region 5 rg5 false) (.seq (.region 6 rg6 true) (.region 7 rg7 false)))) (.region 8 rg8 false))) :: k)) cs) w #[] := by
  rw [LA_eq]; exact stepG_seq
/-- what is lent to worker k: all but its neighbours' channels -/
def Xg (r : Rts) (O k c : Nat) : Loc → Prop := fun l => r.rd l ∧ (∀ a, l = .cell a → a.block = O → a.off = k) ∧ ∀ a, l = .cell a → a.block ≠ c
def Dg (c : Nat) : Loc → Prop := fun l => ∃ a, l = .cell a ∧ a.block = c
def chsOf (cls : List Nat) (Ms : List (List Ev)) : List Ch := List.zipWith (fun c M => ⟨c, JG M, none⟩) cls Ms
theorem chsOf_snoc {cls : List Nat} {Ms : List (List Ev)} {c : Nat} {M : List Ev} (h : Ms[cls.length]? = some M) : chsOf (cls ++ [c]) Ms = chsOf cls Ms ++ [⟨c, JG M, none⟩] := by
  induction cls generalizing Ms with
  | nil =>
    cases Ms with
    | nil => simp at h
    | cons A r =>
      simp only [List.length_nil, List.getElem?_cons_zero, Option.some.injEq] at h
      subst h
      simp [chsOf]
  | cons x l ih =>
    cases Ms with
    | nil => simp at h
    | cons A r =>
      simp only [List.length_cons, List.getElem?_cons_succ] at h
      have := ih h
      simp only [chsOf, List.cons_append, List.zipWith_cons_cons] at this ⊢
      rw [this]
section
variable {Post : Value → World → Prop} {r r' : Rts} {w w' : World} {n0 : Nat} {W0 : Past} {T1 P n cp T3 O m k T4 c : Nat} {Ws : List (List Ev)} {cls : List Nat}
abbrev rcG (r : Rts) (O k c : Nat) : Rts := lend (Xg r O k c) (fun _ => False)
abbrev rkG (r : Rts) (O k c : Nat) : Rts := r.keepOf (Xg r O k c) (Dg c)
theorem RdB.lendG {b : Nat} (h : RdB r b) (h1 : b ≠ O) (h2 : b ≠ c) : RdB (rcG r O k c) b :=
  ⟨.inl ⟨h.1, (fun a e => by cases e), (fun a e => by cases e)⟩, fun a ha => .inl ⟨h.2 a ha, (fun a' e e1 => by cases e; exact absurd (ha.symm.trans e1) h1), (fun a' e e1 => by cases e; exact h2 (ha.symm.trans e1))⟩⟩
theorem RdB.keepG {b : Nat} (h : RdB r b) (h2 : b ≠ c) : RdB (rkG r O k c) b :=
  ⟨⟨h.1, (fun ⟨a, e, _⟩ => by cases e)⟩, fun a ha => ⟨h.2 a ha, (fun ⟨a', e, e1⟩ => by cases e; exact h2 (ha.symm.trans e1))⟩⟩
theorem ne_chan {b : Nat} (hb : CellsAt w b) (hc : ChF n0 r w c) : b ≠ c := fun e => by
  obtain ⟨x, t, fr, e1⟩ := hb
  rw [e, hc.at_] at e1
  cases e1
theorem PA.neq {g : Option Addr} {cc Z : Nat} {W : List Ev} (h : PA r w g cc W) (hW : W ≠ []) {b : Nat} (e : g = some ⟨b, 0, none⟩) (hz : ∀ k n, w.cell? ⟨Z, 0, none⟩ ≠ some (.int k n)) : b ≠ Z := fun e2 => by
  obtain ⟨b', e', _, h2⟩ := h.pb.off hW
  rw [e] at e'
  simp only [Option.some.injEq, Addr.mk.injEq, and_true] at e'
  subst e' e2
  have := (h2 0 (List.length_pos_iff.2 hW)).1
  exact hz _ _ (by simpa using this)
theorem PartAt.lendG {i : Nat} {W : List Ev} (h : PartAt r w P i W) (hO : ∀ k n, w.cell? ⟨O, 0, none⟩ ≠ some (.int k n)) (hc : ChF n0 r w c) : PartAt (rcG r O k c) w P i W := by
  obtain ⟨g, cc, h1, h2⟩ := h
  exact ⟨g, cc, h1, h2.pb, fun hW b e => (h2.rd hW b e).lendG (h2.neq hW e hO) (ne_chan (h2.pb.ex b e) hc), h2.gl⟩
theorem PartAt.keepG {i : Nat} {W : List Ev} (h : PartAt r w P i W) (hc : ChF n0 r w c) : PartAt (rkG r O k c) w P i W := by
  obtain ⟨g, cc, h1, h2⟩ := h
  exact ⟨g, cc, h1, h2.pb, fun hW b e => (h2.rd hW b e).keepG (ne_chan (h2.pb.ex b e) hc), h2.gl⟩
theorem GcF.rely (h : GcF n0 W0 r w T1 P n cp Ws T3 O m k cls T4 c) (q : Rely r w w') : GcF n0 W0 r w' T1 P n cp Ws T3 O m k cls T4 c :=
  ⟨h.gb.rely q, q.cell h.hO (h.gb.la.rO.2 _ rfl), h.ch.rely q⟩
theorem GcF.noint (h : GcF n0 W0 r w T1 P n cp Ws T3 O m k cls T4 c) : ∀ k n, w.cell? ⟨O, 0, none⟩ ≠ some (.int k n) := fun _ _ => by
  obtain ⟨x, e⟩ := h.gb.la.chO
  rw [e]; simp
theorem GcF.gw (h : GcF n0 W0 r w T1 P n cp Ws T3 O m k cls T4 c) : GwF (rcG r O k c) w T3 T4 T1 O P c m n cp k := by
  obtain ⟨x, hx⟩ := h.gb.la.chO
  obtain ⟨gp, lp, cpp, hp⟩ := h.gb.la.ga.pcell
  have hT4 : T4 ≠ O := fun e => by have := h.gb.h4; rw [e, hx] at this; cases this
  have hT3 : T3 ≠ O := fun e => by have := h.gb.la.h3; rw [e, hx] at this; cases this
  have hT1 : T1 ≠ O := fun e => by have := h.gb.la.ga.h1; rw [e, hx] at this; cases this
  have hP : P ≠ O := fun e => by rw [e, hx] at hp; cases hp
  have hOc : O ≠ c := ne_chan (cellsAt_of hx) h.ch
  exact ⟨h.gb.la.h3, h.gb.h4, h.gb.la.ga.h1, h.hO, h.gb.la.r3.lendG hT3 (ne_chan (cellsAt_of h.gb.la.h3) h.ch), h.gb.r4.lendG hT4 (ne_chan (cellsAt_of h.gb.h4) h.ch), h.gb.la.ga.r1.lendG hT1 (ne_chan (cellsAt_of h.gb.la.ga.h1) h.ch), h.gb.la.ga.rP.lendG hP (ne_chan (cellsAt_of hp) h.ch),
    .inl ⟨h.gb.la.rO.2 _ rfl, (fun a e _ => by cases e; rfl), (fun a e => by cases e; exact hOc)⟩, .inl ⟨h.ch.ob, (fun a e => by cases e), (fun a e => by cases e)⟩,
    (fun B hB => by
      rcases hB with rfl | rfl | rfl | rfl
      · exact h.gb.la.gl3
      · exact h.gb.gl4
      · exact h.gb.la.ga.gl1
      · exact h.gb.la.ga.glP), h.gb.hk, h.gb.la.ga.h6, fun l hl => hl.elim⟩
/-- the starter goes on -/
theorem GcF.next (h : GcF n0 W0 r w T1 P n cp Ws T3 O m k cls T4 c) : LAf n0 W0 (rkG r O k c) w T1 P n cp Ws T3 O m (k + 1) (cls ++ [c]) := by
  obtain ⟨x, hx⟩ := h.gb.la.chO
  obtain ⟨gp, lp, cpp, hp⟩ := h.gb.la.ga.pcell
  have hO := ne_chan (cellsAt_of hx) h.ch
  have la := h.gb.la
  have ga : GaF n0 W0 (rkG r O k c) w T1 P n cp Ws :=
    { la.ga with hold := la.ga.hold.split (fun a ⟨a', e, e1⟩ => by cases e; rw [e1]; exact h.ch.ge) (fun b ⟨a', e, _⟩ => by cases e), r1 := la.ga.r1.keepG (ne_chan (cellsAt_of la.ga.h1) h.ch), rP := la.ga.rP.keepG (ne_chan (cellsAt_of hp) h.ch), part := fun i W e => (la.ga.part i W e).keepG h.ch }
  refine { la with ga := ga, r3 := la.r3.keepG (ne_chan (cellsAt_of la.h3) h.ch), rO := la.rO.keepG hO, wrO := fun j hj hm => ⟨la.wrO j (by omega) hm, fun hX => ?_, fun ⟨a, e, e1⟩ => ?_⟩, len := by simp [la.len], cls := fun i c' e => ?_, km := h.gb.hk }
  · have := hX.2.1 _ rfl rfl
    simp at this; omega
  · cases e; exact hO e1
  · by_cases hi : i < cls.length
    · rw [List.getElem?_append_left hi] at e
      exact la.cls i c' e
    · rw [List.getElem?_append_right (by omega)] at e
      have : i - cls.length = 0 := by
        have := (List.getElem?_eq_some_iff.1 e).1
        simp at this; omega
      rw [this] at e
      simp only [List.getElem?_cons_zero, Option.some.injEq] at e
      subst e
      have : i = k := by have := la.len; omega
      rw [this]; exact h.hO
/-- the child that is born -/
theorem GcF.child (h : GcF n0 W0 r w T1 P n cp Ws T3 O m k cls T4 c) : ∃ M, (roundP Ws)[k]? = some M ∧ WkE Tryd.prog wgL.tWg (fun _ => True) 0 c (JG M) .open_ (rcG r O k c) (born Tryd.prog (call35 T3 T4 T1)) w := by
  have hm := h.gb.la.hm
  have hk := h.gb.hk
  have hlen := h.gb.la.ga.len
  have h2k : 2 * k < Ws.length := by omega
  have eA : Ws[2 * k]? = some Ws[2 * k] := List.getElem?_eq_getElem h2k
  have pA := (h.gb.la.ga.part _ _ eA).lendG (k := k) h.noint h.ch
  have pl := h.gb.la.ga.pl
  by_cases hs : 2 * k + 1 = n
  · exact ⟨_, roundP_single (by omega) eA, gather_single h.gw hs pA⟩
  · have h2k1 : 2 * k + 1 < Ws.length := by omega
    have eB : Ws[2 * k + 1]? = some Ws[2 * k + 1] := List.getElem?_eq_getElem h2k1
    have pB := (h.gb.la.ga.part _ _ eB).lendG (k := k) h.noint h.ch
    refine ⟨_, roundP_pair eA eB, gather_pair h.gw (by omega) pA pB (Nat.le_trans (two_len eA eB) pl.len) (fun e he => pl.ok e ?_) (pl.srt _ (List.getElem_mem h2k)) (pl.srt _ (List.getElem_mem h2k1))⟩
    rcases List.mem_append.1 he with he | he
    · exact List.mem_flatten.2 ⟨_, List.getElem_mem h2k, he⟩
    · exact List.mem_flatten.2 ⟨_, List.getElem_mem h2k1, he⟩
end
end Go.Proofs.YtienepcknafddaaDoor
end

section
set_option linter.unusedVariables false
set_option linter.unusedSimpArgs false
set_option linter.unusedVariables false
set_option linter.unusedSimpArgs false
namespace Go.Proofs.YtienepcknafddaaDoor
open Go Go.RowKit Go.Conc Co Cr SimPlain HeapPlain SymPlain
open Go.ConcM

/-- slots of gather's record -/
structure S47 (t : Array Value) (T1 T3 : Nat) : Prop where
  size : t.size = 47
  t1 : t[1]? = some (.pointer (some ⟨T1, 0, none⟩))
  t3 : t[3]? = some (.pointer (some ⟨T3, 0, none⟩))
section
variable {Post : Value → World → Prop} {n0 : Nat} {W0 : Past} {T1 P n cp T3 O m : Nat} {Ws : List (List Ev)}
set_option maxRecDepth 100000 in
set_option maxHeartbeats 8000000 in
theorem loopA {K : List Item} {cs : List Frame}
    (cont : ∀ (t : Array Value) (r : Rts) (w : World) (cls : List Nat), LAf n0 W0 r w T1 P n cp Ws T3 O m m cls → S47 t T1 T3 → ME Tryd.prog wgL.tWg Post (.chs (chsOf cls (roundP Ws))) 0 r (G ((base 17).at ⟨t, []⟩ K) cs) w) :
    ∀ (d k : Nat) (t : Array Value) (r : Rts) (w : World) (cls : List Nat), d = m - k → LAf n0 W0 r w T1 P n cp Ws T3 O m k cls → S47 t T1 T3 → t[18]? = some (.int .i64 m) → t[19]? = some (.int .i64 k) →
      ME Tryd.prog wgL.tWg Post (.chs (chsOf cls (roundP Ws))) 0 r (G ((base 17).at ⟨t, []⟩ (.code LA :: .inLoop LA :: .inBlock 2 :: K)) cs) w := by
  intro d
  induction d with
  | zero =>
    intro k t r w cls hd F hS h18 h19
    obtain rfl : k = m := by have := F.km; omega
    obtain ⟨x0, x1, x2, x3, x4, x5, x6, x7, x8, x9, x10, x11, x12, x13, x14, x15, x16, x17, x18, x19, x20, x21, x22, x23, x24, x25, x26, x27, x28, x29, x30, x31, x32, x33, x34, x35, x36, x37, x38, x39, x40, x41, x42, x43, x44, x45, x46, rfl⟩ := arr47 hS.size
    obtain rfl : x1 = _ := by simpa using hS.t1
    obtain rfl : x3 = _ := by simpa using hS.t3
    obtain rfl : x18 = _ := by simpa using h18
    obtain rfl : x19 = _ := by simpa using h19
    clear hd hS h18 h19
    have hF : KW r ((Sg.chs (chsOf cls (roundP Ws))).iv wgL.tWg) w w := ⟨Rely.refl _ _, trivial⟩
    refine me_ctl rfl (fun _ => stepLA) ?_
    simp only [rg4, qLA, q1, qLO, Tryd.f17]
    have hlt : ¬ ((k : Int) < (k : Int)) := by omega
    refine me_run (m := 6) rfl trivial ?_
    w_go kw_rely
    w_go kw_rely
    w_go kw_rely
    w_go kw_rely
    w_go kw_rely
    w_go kw_rely
    refine Goes.stop (fun w₁ h₁ => ?_)
    replace hF := kw_rely hF h₁
    clear h₁
    exact cont _ r _ cls (F.rely hF.1) ⟨rfl, rfl, rfl⟩
  | succ d ih =>
    intro k t r w cls hd F hS h18 h19
    have hk : k < m := by omega
    have h6 : m ≤ 6 := by have := F.hm; have := F.ga.h6; omega
    obtain ⟨x0, x1, x2, x3, x4, x5, x6, x7, x8, x9, x10, x11, x12, x13, x14, x15, x16, x17, x18, x19, x20, x21, x22, x23, x24, x25, x26, x27, x28, x29, x30, x31, x32, x33, x34, x35, x36, x37, x38, x39, x40, x41, x42, x43, x44, x45, x46, rfl⟩ := arr47 hS.size
    obtain rfl : x1 = _ := by simpa using hS.t1
    obtain rfl : x3 = _ := by simpa using hS.t3
    obtain rfl : x18 = _ := by simpa using h18
    obtain rfl : x19 = _ := by simpa using h19
    clear hS h18 h19
    have hF : KW r ((Sg.chs (chsOf cls (roundP Ws))).iv wgL.tWg) w w := ⟨Rely.refl _ _, trivial⟩
    refine me_ctl rfl (fun _ => stepLA) ?_
    simp only [rg4, rg5, q3, qLA, q1, qLO, Tryd.f17]
    have hlt : ((k : Int) < (m : Int)) := by omega
    refine me_run (m := 13) rfl trivial ?_
    repeat w_go kw_rely
    refine Goes.stop (fun w₁ h₁ => ?_)
    replace hF := kw_rely hF h₁
    replace F := F.rely hF.1
    clear h₁ hF
    refine me_al (f := fun n => .pointer (some ⟨n, 0, none⟩)) rfl rfl (by decide) loud13 (al3 rfl) fun w2 h2 _ => ?_
    walk_nrm
    have hrow : Cr.Row (w2.alloc (.cells #[.int .i64 0] 3 (0, 0))) w2.heap.size 0 := ⟨_, _, _, alloc_here _ _, by simp, by simp⟩
    refine me_st rfl rfl (by decide) loud13 (st3 (k := .i64) (n := (k : Int)) rfl rfl rfl) hrow (new_rd_cell rfl) (new_wr_cell rfl) fun w3 h3 => ?_
    walk_nrm
    have hG : GbF n0 W0 (r.new w2.heap.size (w2.heap.size + 1)) (w3.setCell ⟨w2.heap.size, 0, none⟩ (.int .i64 k)) T1 P n cp Ws T3 O m k cls w2.heap.size :=
      ⟨(F.rely (rely_set ((rely_alloc h2 _).trans (rely_of_new h3)) h2.size _)).new _ _, (hrow.rely h3).set _, ⟨new_rd_obj, fun a ha => new_rd_cell ha⟩, Nat.le_trans F.ga.gl1 (Nat.le_trans (Nat.le_of_lt (cell_lt F.ga.h1)) h2.size), hk⟩
    generalize w3.setCell ⟨w2.heap.size, 0, none⟩ (.int .i64 k) = w4 at hG
    generalize r.new w2.heap.size (w2.heap.size + 1) = r4 at hG
    generalize w2.heap.size = T4 at hG
    clear h2 h3 hrow F
    have hF : KW r4 ((Sg.chs (chsOf cls (roundP Ws))).iv wgL.tWg) w4 w4 := ⟨Rely.refl _ _, trivial⟩
    refine me_run (m := 2) rfl trivial ?_
    w_go kw_rely
    w_go kw_rely
    refine Goes.stop (fun w₁ h₁ => ?_)
    replace hF := kw_rely hF h₁
    replace hG := hG.rely hF.1
    clear h₁ hF
    refine ga_r6 rfl rfl rfl hG (fun t r w c hs hsame hGc => ?_)
    obtain ⟨x0, x1, x2, x3, x4, x5, x6, x7, x8, x9, x10, x11, x12, x13, x14, x15, x16, x17, x18, x19, x20, x21, x22, x23, x24, x25, x26, x27, x28, x29, x30, x31, x32, x33, x34, x35, x36, x37, x38, x39, x40, x41, x42, x43, x44, x45, x46, rfl⟩ := arr47 hs
    obtain rfl : x1 = .pointer (some ⟨T1, 0, none⟩) := by have := hsame 1 (by omega); simpa using this
    obtain rfl : x3 = .pointer (some ⟨T3, 0, none⟩) := by have := hsame 3 (by omega); simpa using this
    obtain rfl : x4 = .pointer (some ⟨T4, 0, none⟩) := by have := hsame 4 (by omega); simpa using this
    obtain rfl : x18 = .int .i64 m := by have := hsame 18 (by omega); simpa using this
    obtain rfl : x19 = .int .i64 k := by have := hsame 19 (by omega); simpa using this
    clear hs hsame hG
    simp only [rg7, q3, qLA, q1, qLO, Tryd.f17]
    have hF : KW r ((Sg.chs (chsOf cls (roundP Ws))).iv wgL.tWg) w w := ⟨Rely.refl _ _, trivial⟩
    refine me_run (m := 3) rfl trivial ?_
    w_go kw_rely
    w_go kw_rely
    w_go kw_rely
    refine Goes.stop (fun w₁ h₁ => ?_)
    replace hF := kw_rely hF h₁
    replace hGc := hGc.rely hF.1
    clear h₁ hF
    obtain ⟨M, hM, hch⟩ := hGc.child
    have hcl : cls.length = k := hGc.gb.la.len
    refine ME.spawnG (c := c) (J := JG M) (r' := rkG r O k c) (rc := rcG r O k c) rfl (JG.st M) (split_lend hGc.gb.la.ga.hold.sub (fun l h => h.1) (fun l ⟨a, e, e1⟩ => by subst e; exact hGc.ch.wr a e1) (fun _ h => h.elim)) (hGc.ch.wr _ rfl) (fun h => h.2 ⟨_, rfl, rfl⟩) (fun h => h.elim (fun h => h.2.2 _ rfl rfl) id)
      (fun w1 h1 => ⟨(hGc.ch.rely h1).at_, _, _, stepG_go rfl rfl (by decide) rfl rfl w1, hch.rely (Rely.mono (r := r) (r' := rcG r O k c) (fun l (hl : Xg r O k c l ∨ False) => hl.elim (fun h => h.1) False.elim) h1), ?_⟩)
    rw [← chsOf_snoc (by rw [hcl]; exact hM)]
    walk_nrm
    have F2 := (hGc.rely h1).next
    clear hch hGc h1
    have hF : KW (rkG r O k c) ((Sg.chs (chsOf (cls ++ [c]) (roundP Ws))).iv wgL.tWg) w1 w1 := ⟨Rely.refl _ _, trivial⟩
    have hwr : IntKind.i64.wrap ((k : Int) + 1) = (k : Int) + 1 := by rw [IntKind.wrap_i64]; omega
    simp only [rg8, qLA, q1, qLO, Tryd.f17]
    refine me_run (m := 8) rfl trivial ?_
    repeat w_go kw_rely
    refine Goes.stop (fun w₁ h₁ => ?_)
    replace hF := kw_rely hF h₁
    replace F2 := F2.rely hF.1
    clear h₁ hF
    exact ih (k + 1) _ _ _ _ (by omega) F2 ⟨rfl, rfl, rfl⟩ rfl (by simp)
end
end Go.Proofs.YtienepcknafddaaDoor
end

section
set_option linter.unusedVariables false
set_option linter.unusedSimpArgs false
set_option linter.unusedVariables false
set_option linter.unusedSimpArgs false
namespace Go.Proofs.YtienepcknafddaaDoor
open Go Go.RowKit Go.Conc Co Cr SimPlain HeapPlain SymPlain
open Go.ConcM

theorem zeroL (w : World) : (zeroValue 22).run Tryd.prog w = .ok (.slice none 0 0) w ∧ (zeroValue 22).events Tryd.prog w #[] = #[] := by
  simp [go_sem]
section
variable {ρ : Operand → Value} {o : Oper} {x : Operand}
theorem bs35 {g : Option Addr} {l c : Nat} (hop : o.op = .buildSlice 37 1 #[(0, x)]) (hx : ρ x = .slice g l c) (w : World) : (execOp ρ o).run Tryd.prog w = .ok (.value (.slice (some ⟨w.heap.size, 0, none⟩) 1 1)) (w.alloc (.cells #[.slice g l c] 22 (0, 0))) ∧ (execOp ρ o).events Tryd.prog w #[] = #[] := by
  unfold execOp; simp only [hop]; simp [go_sem, hx]
end
theorem stepLB {m : Bool} {b : Frame} {a : _root_.Go.Act} {k : List Item} {cs : List Frame} {w : World} : stepG Tryd.prog m (G (b.at a (.code LB :: k)) cs) w = .go (G (b.at a (.code (.region 11 rg11 false) :: .code (.seq (.cond (.tmp 31) .skip (.exit 4)) (.seq (.block 5 (.seq (.region 12 rg12 false) (.seq (.region 13 rg13 false) (.block 6 (.loop LC))))) (.region 17 rg17 false))) :: k)) cs) w #[] := by
  rw [LB_eq]; exact stepG_seq
theorem stepLC {m : Bool} {b : Frame} {a : _root_.Go.Act} {k : List Item} {cs : List Frame} {w : World} : stepG Tryd.prog m (G (b.at a (.code LC :: k)) cs) w = .go (G (b.at a (.code (.region 14 rg14 false) :: .code (.seq (.cond (.tmp 36) .skip (.exit 6)) (.block 7 (.seq (.region 15 rg15 false) (.region 16 rg16 false)))) :: k)) cs) w #[] := by
  rw [LC_eq]; exact stepG_seq
theorem chsOf_drop {cls : List Nat} {Ms : List (List Ev)} {k c : Nat} {M : List Ev} (hc : cls[k]? = some c) (hM : Ms[k]? = some M) : chsOf (cls.drop k) (Ms.drop k) = ⟨c, JG M, none⟩ :: chsOf (cls.drop (k + 1)) (Ms.drop (k + 1)) := by
  obtain ⟨h1, e1⟩ := List.getElem?_eq_some_iff.1 hc
  obtain ⟨h2, e2⟩ := List.getElem?_eq_some_iff.1 hM
  rw [List.drop_eq_getElem_cons h1, List.drop_eq_getElem_cons h2, e1, e2]
  rfl
/-- while the channels are heard out -/
structure LBf (n0 : Nat) (W0 : Past) (r : Rts) (w : World) (T1 O m B0 k kr : Nat) (cls : List Nat) (Ms : List (List Ev)) (v5 : Value) (xs : List Value) : Prop where
  hold : Hold n0 W0 r w
  r1 : RdB r T1
  row1 : Cr.Row w T1 0
  c1 : ∃ g l c, w.cell? ⟨T1, 0, none⟩ = some (.slice g l c)
  gl1 : Tryd.prog.globals.size ≤ T1
  ge1 : n0 ≤ T1
  rO : RdB r O
  chn : ∀ i c, cls[i]? = some c → w.cell? ⟨O, i, none⟩ = some (.chan (some c))
  len : cls.length = m
  lenM : Ms.length = m
  h6 : m ≤ 6
  h0 : 1 ≤ m
  own : w.ownsRow B0 22 1 v5 kr xs
  rN : ∀ g, v5.ownBlock = some g → r.rd (.obj g) ∧ ∀ a : Addr, a.block = g → r.rd (.cell a) ∧ r.wr (.cell a)
  noi : ∀ g, v5.ownBlock = some g → ∃ a l c, w.cell? ⟨g, 0, none⟩ = some (.slice a l c)
  b1 : T1 < B0
  bO : O < B0
  bw : B0 ≤ w.heap.size
  got : ∀ i M, i < k → Ms[i]? = some M → ∃ g c, xs[i]? = some (.slice g M.length c) ∧ PA r w g c M
  km : k ≤ m
  pl : Pl Ms
  full : k = m → ∀ l, r.rd l → r.wr l
section
variable {r r' : Rts} {w w' : World} {n0 : Nat} {W0 : Past} {T1 P n cp T3 O m B0 k kr : Nat} {Ws Ms : List (List Ev)} {cls : List Nat} {v5 : Value} {xs : List Value}
theorem LBf.rely (h : LBf n0 W0 r w T1 O m B0 k kr cls Ms v5 xs) (q : Rely r w w') : LBf n0 W0 r w' T1 O m B0 k kr cls Ms v5 xs :=
  { h with hold := h.hold.rely q, row1 := h.row1.rely q, c1 := (let ⟨g, l, c, e⟩ := h.c1; ⟨g, l, c, q.cell e (h.r1.2 _ rfl)⟩), chn := (fun i c e => q.cell (h.chn i c e) (h.rO.2 _ rfl)), own := ownsRow_rely h.own (fun g e a ha => ((h.rN g e).2 a ha).1) q, noi := (fun g e => let ⟨a, l, c, x⟩ := h.noi g e; ⟨a, l, c, q.cell x ((h.rN g e).2 _ rfl).1⟩), bw := Nat.le_trans h.bw q.size, got := (fun i M a e => let ⟨g, c, x, y⟩ := h.got i M a e; ⟨g, c, x, y.rely q⟩) }
/-- the first round of it -/
theorem LAf.toB (h : LAf n0 W0 r w T1 P n cp Ws T3 O m m cls) (hp : Pl (roundP Ws)) : LBf n0 W0 r w T1 O m w.heap.size 0 0 cls (roundP Ws) (.slice none 0 0) [] := by
  obtain ⟨x, hx⟩ := h.chO
  have h0 := h.ga.h0
  have h6 := h.ga.h6
  have hm := h.hm
  exact ⟨h.ga.hold, h.ga.r1, h.ga.row1, ⟨_, _, _, h.ga.h1⟩, h.ga.gl1, h.ga.ge, h.rO, h.cls, h.len, by rw [roundP_len, h.ga.len, h.hm], by omega, by omega, World.ownsRow_nil _ _ _ _, (fun g e => by cases e), (fun g e => by cases e), cell_lt h.ga.h1, cell_lt hx, Nat.le_refl _, (fun i M a => absurd a (Nat.not_lt_zero _)), Nat.zero_le _, hp, (fun e => by omega)⟩
theorem LBf.new (h : LBf n0 W0 r w T1 O m B0 k kr cls Ms v5 xs) (x y : Nat) : LBf n0 W0 (r.new x y) w T1 O m B0 k kr cls Ms v5 xs :=
  { h with hold := Hold.new h.hold x y, r1 := h.r1.mono fun _ => .inl, rO := h.rO.mono fun _ => .inl, rN := (fun g e => ⟨.inl (h.rN g e).1, fun a ha => ⟨.inl ((h.rN g e).2 a ha).1, .inl ((h.rN g e).2 a ha).2⟩⟩), got := (fun i M a e => let ⟨g, c, x, y⟩ := h.got i M a e; ⟨g, c, x, y.mono fun _ => .inl⟩), full := (fun e l hl => hl.imp (h.full e l) id) }
theorem own_ge {base n : Nat} {e : TypeId} {v : Value} (h : w.ownsRow base e 1 v n xs) {g : Nat} (hg : v.ownBlock = some g) : base ≤ g ∧ CellsAt w g := by
  rcases h.2 with ⟨rfl, _⟩ | ⟨g', cap, cur, rfl, h1, h2, _⟩
  · cases hg
  · simp only [Value.ownBlock, Option.some.injEq] at hg
    subst hg
    exact ⟨h1, _, _, _, h2⟩
/-- what has been received is laid behind the others -/
theorem LBf.app {v v' : Value} {gv : Option Addr} {lv cv : Nat} (h : LBf n0 W0 r w T1 O m B0 k k cls Ms v5 xs) (hv : v = .slice gv lv cv) (own : w'.ownsRow B0 22 1 v' (k + 1) (xs ++ [v])) (ht : ∀ X : Loc → Prop, (∀ g i, v5.ownBlock = some g → X (.cell ⟨g, i, none⟩)) → Turn X w w') (hat : v'.ownBlock = v5.ownBlock ∨ v'.ownBlock = some w.heap.size) :
    LBf n0 W0 (r.new w.heap.size w'.heap.size) w' T1 O m B0 k (k + 1) cls Ms v' (xs ++ [v]) := by
  have t0 := ht (fun l => ∃ g i, v5.ownBlock = some g ∧ l = .cell ⟨g, i, none⟩) fun g i e => ⟨g, i, e, rfl⟩
  obtain ⟨Z, hZ, hZB⟩ : ∃ Z, Upd Z w w' ∧ B0 ≤ Z := by
    cases ho : v5.ownBlock with
    | none =>
      refine ⟨w.heap.size, ⟨(fun b hb _ => Turn.block t0 hb fun i ⟨g, j, e, _⟩ => by rw [ho] at e; cases e), fun hc => hc.turn t0, t0.size, cell_beyond w⟩, h.bw⟩
    | some g =>
      obtain ⟨a, l, c, e⟩ := h.noi g ho
      exact ⟨g, ⟨(fun b hb hne => Turn.block t0 hb fun i ⟨g', j, e1, e2⟩ => by
        rw [ho] at e1
        simp only [Option.some.injEq] at e1
        simp only [Loc.cell.injEq, Addr.mk.injEq] at e2
        exact hne (e2.1.trans e1.symm)), fun hc => hc.turn t0, t0.size, fun _ _ => by rw [e]; simp⟩, (own_ge h.own ho).1⟩
  have hT1 : T1 ≠ Z := by have := h.b1; omega
  have hO : O ≠ Z := by have := h.bO; omega
  have hn0 : n0 ≤ B0 := Nat.le_trans h.ge1 (Nat.le_of_lt h.b1)
  have hbw := h.bw
  have hlx : xs.length = k := by simpa using h.own.1
  have hold : Hold n0 W0 r w' := ⟨h.hold.sub, h.hold.old, h.hold.oldo, ⟨t0.os.trans h.hold.keep.os, t0.tape.trans h.hold.keep.tape, t0.output.trans h.hold.keep.output, fun b hb => (hZ.same b (by have := h.hold.lt b hb; omega) (by have := h.hold.lt b hb; omega)).trans (h.hold.keep.blk b hb)⟩, Nat.le_trans h.hold.le t0.size, h.hold.lt⟩
  have hnew : ∀ g, v'.ownBlock = some g → (∃ a l c, w'.cell? ⟨g, 0, none⟩ = some (.slice a l c)) := fun g e => by
    have hc : ∀ u, (xs ++ [v])[0]? = some u → w'.cell? ⟨g, 0, none⟩ = some u := fun u hu => by
      rcases own.2 with ⟨rfl, _⟩ | ⟨g', cap, cur, rfl, h1, h2, h3⟩
      · cases e
      · simp only [Value.ownBlock, Option.some.injEq] at e
        subst e
        have := own.cells (g := g') rfl 0 u hu
        simpa [Addr.add] using this
    cases hk : k with
    | zero =>
      subst hk
      obtain rfl := List.eq_nil_of_length_eq_zero hlx
      exact ⟨gv, lv, cv, hc _ (by rw [hv]; rfl)⟩
    | succ j =>
      have hj : 0 < Ms.length := by have := h.lenM; have := h.km; omega
      obtain ⟨a, c, e1, _⟩ := h.got 0 _ (by omega) (List.getElem?_eq_getElem hj)
      exact ⟨a, _, c, hc _ (by rw [List.getElem?_append_left (by omega)]; exact e1)⟩
  refine ⟨Hold.new hold _ _, h.r1.mono fun _ => .inl, hZ.row h.row1 hT1, (let ⟨g, l, c, e⟩ := h.c1; ⟨g, l, c, hZ.cell e hT1⟩), h.gl1, h.ge1, h.rO.mono fun _ => .inl, (fun i c e => hZ.cell (h.chn i c e) hO), h.len, h.lenM, h.h6, h.h0, own, fun g e => ?_, hnew, h.b1, h.bO, Nat.le_trans h.bw t0.size, fun i M a e => ?_, h.km, h.pl, (fun e l hl => hl.imp (h.full e l) id)⟩
  · rcases hat with c | c
    · rw [c] at e
      exact ⟨.inl (h.rN g e).1, fun a ha => ⟨.inl ((h.rN g e).2 a ha).1, .inl ((h.rN g e).2 a ha).2⟩⟩
    · rw [c] at e
      simp only [Option.some.injEq] at e
      subst e
      obtain ⟨x, t, fr, e1⟩ := (own_ge own c).2
      have hlt := (Array.getElem?_eq_some_iff.1 e1).1
      exact ⟨.inr ⟨rfl, (fun x => Nat.lt_irrefl _ x), hlt⟩, fun a ha => ⟨.inr ⟨rfl, by rw [loc_low]; omega, by rw [loc_low]; omega⟩, .inr ⟨rfl, by rw [loc_low]; omega, by rw [loc_low]; omega⟩⟩⟩
  · obtain ⟨g, c, e1, e2⟩ := h.got i M a e
    exact ⟨g, c, by rw [List.getElem?_append_left (by omega)]; exact e1, e2.upd hZ fun _ => .inl⟩
/-- what has been heard out is to be read -/
theorem LBf.heard {v : Value} {q : Rts} {M : List Ev} (h : LBf n0 W0 r w T1 O m B0 k (k + 1) cls Ms v5 (xs ++ [v])) (hk : k < m) (hx : xs.length = k) (hM : Ms[k]? = some M) (hj : JG M v q w) (e1 : ∀ l, r.rd l → r'.rd l) (e2 : ∀ l, r.wr l → r'.wr l) (e3 : ∀ l, q.rd l → r'.rd l) (hs : ∀ l, r'.wr l → r'.rd l) (hf : k + 1 = m → ∀ l, r'.rd l → r'.wr l) :
    LBf n0 W0 r' w T1 O m B0 (k + 1) (k + 1) cls Ms v5 (xs ++ [v]) := by
  obtain ⟨⟨g, c, hv, hp⟩, _⟩ := hj
  refine { h with hold := ⟨hs, fun a ha => e1 _ (h.hold.old a ha), fun b hb => e1 _ (h.hold.oldo b hb), h.hold.keep, h.hold.le, h.hold.lt⟩, r1 := h.r1.mono e1, rO := h.rO.mono e1, rN := (fun g e => ⟨e1 _ (h.rN g e).1, fun a ha => ⟨e1 _ ((h.rN g e).2 a ha).1, e2 _ ((h.rN g e).2 a ha).2⟩⟩), got := (fun i M' hi e => ?_), km := hk, full := hf }
  by_cases hik : i < k
  · obtain ⟨g', c', x, y⟩ := h.got i M' hik e
    exact ⟨g', c', x, y.mono e1⟩
  · obtain rfl : i = k := by omega
    rw [hM] at e
    obtain rfl := Option.some.inj e
    exact ⟨g, c, by rw [List.getElem?_append_right (by omega), hx]; simp [hv], hp.mono e3⟩
end
end Go.Proofs.YtienepcknafddaaDoor
end

section
set_option linter.unusedVariables false
set_option linter.unusedSimpArgs false
set_option linter.unusedVariables false
set_option linter.unusedSimpArgs false
namespace Go.Proofs.YtienepcknafddaaDoor
open Go Go.RowKit Go.Conc Co Cr SimPlain HeapPlain SymPlain
open Go.ConcM

section
variable {Post : Value → World → Prop} {n0 : Nat} {W0 : Past} {T1 O m B0 : Nat} {Ms : List (List Ev)} {cls : List Nat}
set_option maxRecDepth 100000 in
set_option maxHeartbeats 8000000 in
theorem loopB {K : List Item} {cs : List Frame}
    (cont : ∀ (t : Array Value) (r : Rts) (w : World) (v5 : Value) (xs : List Value), LBf n0 W0 r w T1 O m B0 m m cls Ms v5 xs → t.size = 47 → t[1]? = some (.pointer (some ⟨T1, 0, none⟩)) → t[5]? = some v5 → ME Tryd.prog wgL.tWg Post (.chs []) 0 r (G ((base 17).at ⟨t, []⟩ K) cs) w) :
    ∀ (d k : Nat) (t : Array Value) (r : Rts) (w : World) (v5 : Value) (xs : List Value), d = m - k → LBf n0 W0 r w T1 O m B0 k k cls Ms v5 xs → t.size = 47 → t[1]? = some (.pointer (some ⟨T1, 0, none⟩)) → t[5]? = some v5 → t[28]? = some (.slice (some ⟨O, 0, none⟩) m m) → t[29]? = some (.int .i64 m) → t[30]? = some (.int .i64 k) →
      ME Tryd.prog wgL.tWg Post (.chs (chsOf (cls.drop k) (Ms.drop k))) 0 r (G ((base 17).at ⟨t, []⟩ (.code LB :: .inLoop LB :: .inBlock 4 :: K)) cs) w := by
  intro d
  induction d with
  | zero =>
    intro k t r w v5 xs hd F hs h1 h5 h28 h29 h30
    obtain rfl : k = m := by have := F.km; omega
    obtain ⟨x0, x1, x2, x3, x4, x5, x6, x7, x8, x9, x10, x11, x12, x13, x14, x15, x16, x17, x18, x19, x20, x21, x22, x23, x24, x25, x26, x27, x28, x29, x30, x31, x32, x33, x34, x35, x36, x37, x38, x39, x40, x41, x42, x43, x44, x45, x46, rfl⟩ := arr47 hs
    obtain rfl : x1 = _ := by simpa using h1
    obtain rfl : x5 = _ := by simpa using h5
    obtain rfl : x28 = _ := by simpa using h28
    obtain rfl : x29 = _ := by simpa using h29
    obtain rfl : x30 = _ := by simpa using h30
    clear hd hs h1 h5 h28 h29 h30
    have hch : chsOf (cls.drop k) (Ms.drop k) = [] := by
      rw [List.drop_eq_nil_of_le (by rw [F.len]; exact Nat.le_refl _)]; rfl
    rw [hch]
    have hF : KW r ((Sg.chs []).iv wgL.tWg) w w := ⟨Rely.refl _ _, trivial⟩
    refine me_ctl rfl (fun _ => stepLB) ?_
    simp only [rg11, qLB, q1, qLO, Tryd.f17]
    have hlt : ¬ ((k : Int) < (k : Int)) := by omega
    refine me_run (m := 6) rfl trivial ?_
    w_go kw_rely
    w_go kw_rely
    w_go kw_rely
    w_go kw_rely
    w_go kw_rely
    w_go kw_rely
    refine Goes.stop (fun w₁ h₁ => ?_)
    replace hF := kw_rely hF h₁
    clear h₁
    exact cont _ r _ _ xs (F.rely hF.1) rfl rfl rfl
  | succ d ih =>
    intro k t r w v5 xs hd F hs h1 h5 h28 h29 h30
    have hk : k < m := by omega
    have h6 := F.h6
    have hlx : xs.length = k := by simpa using F.own.1
    obtain ⟨x0, x1, x2, x3, x4, x5, x6, x7, x8, x9, x10, x11, x12, x13, x14, x15, x16, x17, x18, x19, x20, x21, x22, x23, x24, x25, x26, x27, x28, x29, x30, x31, x32, x33, x34, x35, x36, x37, x38, x39, x40, x41, x42, x43, x44, x45, x46, rfl⟩ := arr47 hs
    obtain rfl : x1 = _ := by simpa using h1
    obtain rfl : x5 = _ := by simpa using h5
    obtain rfl : x28 = _ := by simpa using h28
    obtain rfl : x29 = _ := by simpa using h29
    obtain rfl : x30 = _ := by simpa using h30
    clear hs h1 h5 h28 h29 h30
    have ec : cls[k]? = some (cls[k]'(by rw [F.len]; exact hk)) := List.getElem?_eq_getElem _
    have eM : Ms[k]? = some (Ms[k]'(by rw [F.lenM]; exact hk)) := List.getElem?_eq_getElem _
    generalize cls[k]'(by rw [F.len]; exact hk) = c at ec
    generalize Ms[k]'(by rw [F.lenM]; exact hk) = M at eM
    rw [chsOf_drop ec eM]
    have hF : KW r ((Sg.chs (⟨c, JG M, none⟩ :: chsOf (cls.drop (k + 1)) (Ms.drop (k + 1)))).iv wgL.tWg) w w := ⟨Rely.refl _ _, trivial⟩
    refine me_ctl rfl (fun _ => stepLB) ?_
    simp only [rg11, rg12, rg13, q5, qLB, q1, qLO, Tryd.f17]
    have hlt : ((k : Int) < (m : Int)) := by omega
    have i1 : (0 : Int) ≤ (k : Int) := by omega
    refine me_run (m := 14) rfl trivial ?_
    repeat w_go kw_rely
    refine Goes.stop (fun w₁ h₁ => ?_)
    replace hF := kw_rely hF h₁
    replace F := F.rely hF.1
    clear h₁ hF
    refine me_ld rfl rfl (by decide) loud13 rfl (ld69 rfl rfl) (F.chn k c ec) (F.rO.2 _ rfl) ?_
    walk_nrm
    have hF : KW r ((Sg.chs (⟨c, JG M, none⟩ :: chsOf (cls.drop (k + 1)) (Ms.drop (k + 1)))).iv wgL.tWg) w₁ w₁ := ⟨Rely.refl _ _, trivial⟩
    refine me_run (m := 14) rfl trivial ?_
    repeat w_go kw_rely
    refine Goes.stop (fun w₁ h₁ => ?_)
    replace hF := kw_rely hF h₁
    replace F := F.rely hF.1
    clear h₁ hF
    refine me_ctl rfl (fun _ => stepLC) ?_
    simp only [rg14, rg15, rg16, q7, qLC, q5, qLB, q1, qLO, Tryd.f17]
    have hF : KW r ((Sg.chs (⟨c, JG M, none⟩ :: chsOf (cls.drop (k + 1)) (Ms.drop (k + 1)))).iv wgL.tWg) w₁ w₁ := ⟨Rely.refl _ _, trivial⟩
    refine me_run (m := 1) rfl trivial ?_
    w_go kw_rely
    refine Goes.stop (fun w₁ h₁ => ?_)
    replace hF := kw_rely hF h₁
    replace F := F.rely hF.1
    clear h₁ hF
    refine me_recv rfl rfl (by decide) rfl rfl Tryd.underlying72 zeroL fun w2 h2 v hv => ?_
    replace F := F.rely h2
    clear h2
    obtain ⟨_, _, ⟨gv, cv, rfl, _⟩, _⟩ := hv
    walk_nrm
    have hF : KW r ((Sg.chs (⟨c, JG M, some (.slice gv M.length cv)⟩ :: chsOf (cls.drop (k + 1)) (Ms.drop (k + 1)))).iv wgL.tWg) w2 w2 := ⟨Rely.refl _ _, trivial⟩
    refine me_run (m := 18) rfl trivial ?_
    repeat w_go kw_rely
    refine Goes.stop (fun w₁ h₁ => ?_)
    replace hF := kw_rely hF h₁
    replace F := F.rely hF.1
    clear h₁ hF
    refine me_al (f := fun n => .slice (some ⟨n, 0, none⟩) 1 1) rfl rfl (by decide) loud13 (bs35 rfl rfl) fun w3 h3 _ => ?_
    walk_nrm
    have F3 := (F.rely (rely_alloc h3 (.cells #[.slice gv M.length cv] 22 (0, 0)))).new w3.heap.size (w3.heap.size + 1)
    have hcell : (w3.alloc (.cells #[.slice gv M.length cv] 22 (0, 0))).cell? ⟨w3.heap.size, 0, none⟩ = some (.slice gv M.length cv) := by unfold World.cell?; simp only [alloc_here]; rfl
    have hmax : k + 1 ≤ maxLen := by unfold maxLen; omega
    refine me_append (base := B0) rfl rfl (by decide) loud13 rfl Tryd.underlying37 infoL rfl rfl rfl F3.own hcell rfl hmax (by omega) F3.bw (fun g e => (F3.rN g e).2) (fun a ha => new_rd_cell ha) fun w4 w5 v' h4 ho ht hat => ?_
    walk_nrm
    have F5 := (F3.rely h4).app rfl ho ht hat
    clear F3 h3 h4 ho ht hat hcell F
    generalize Rts.new (Rts.new r w3.heap.size (w3.heap.size + 1)) w4.heap.size w5.heap.size = r5 at F5
    have hF : KW r5 ((Sg.chs (⟨c, JG M, some (.slice gv M.length cv)⟩ :: chsOf (cls.drop (k + 1)) (Ms.drop (k + 1)))).iv wgL.tWg) w5 w5 := ⟨Rely.refl _ _, trivial⟩
    refine me_run (m := 18) rfl trivial ?_
    repeat w_go kw_rely
    refine Goes.stop (fun w₁ h₁ => ?_)
    replace hF := kw_rely hF h₁
    replace F5 := F5.rely hF.1
    clear h₁ hF
    refine me_ctl rfl (fun _ => stepLC) ?_
    simp only [rg14, qLC, q5, qLB, q1, qLO, Tryd.f17]
    have hF : KW r5 ((Sg.chs (⟨c, JG M, some (.slice gv M.length cv)⟩ :: chsOf (cls.drop (k + 1)) (Ms.drop (k + 1)))).iv wgL.tWg) w₁ w₁ := ⟨Rely.refl _ _, trivial⟩
    refine me_run (m := 1) rfl trivial ?_
    w_go kw_rely
    refine Goes.stop (fun w₁ h₁ => ?_)
    replace hF := kw_rely hF h₁
    replace F5 := F5.rely hF.1
    clear h₁ hF
    have hwr : IntKind.i64.wrap ((k : Int) + 1) = (k : Int) + 1 := by rw [IntKind.wrap_i64]; omega
    refine me_hear rfl rfl (by decide) rfl rfl Tryd.underlying72 zeroL (fun w6 h6 q hq hcl => ?_) (fun w6 h6 q hq hcl => ?_)
    · have F6 := (F5.rely h6).heard (r' := r5.full [q]) hk hlx eM hq (fun l h => .inl h) (fun l h => .inl (F5.hold.sub l h)) (fun l h => .inr ⟨q, by simp, h⟩) (fun _ h => h) (fun _ _ h => h)
      rw [show ([] : List Ch) = chsOf (cls.drop (k + 1)) (Ms.drop (k + 1)) from hcl.symm]
      clear F5 h6 hq hcl eM ec hlx
      generalize r5.full [q] = r6 at F6
      walk_nrm
      simp only [rg17, qLB, q1, qLO, Tryd.f17]
      have hF : KW r6 ((Sg.chs (chsOf (cls.drop (k + 1)) (Ms.drop (k + 1)))).iv wgL.tWg) w6 w6 := ⟨Rely.refl _ _, trivial⟩
      refine me_run (m := 18) rfl trivial ?_
      repeat w_go kw_rely
      refine Goes.stop (fun w₁ h₁ => ?_)
      replace hF := kw_rely hF h₁
      replace F6 := F6.rely hF.1
      clear h₁ hF
      exact ih (k + 1) _ _ _ _ _ (by omega) F6 rfl rfl rfl rfl rfl (by simp)
    · have F6 := (F5.rely h6).heard (r' := r5.join q) hk hlx eM hq (fun l h => .inl h) (fun l h => .inl h) (fun l h => .inr h) (fun l hl => hl.imp (F5.hold.sub l) (hq.2 l)) (fun e => absurd (by rw [List.drop_eq_nil_of_le (by rw [F5.len]; omega)]; rfl) hcl)
      clear F5 h6 hq hcl eM ec hlx
      generalize r5.join q = r6 at F6
      walk_nrm
      simp only [rg17, qLB, q1, qLO, Tryd.f17]
      have hF : KW r6 ((Sg.chs (chsOf (cls.drop (k + 1)) (Ms.drop (k + 1)))).iv wgL.tWg) w6 w6 := ⟨Rely.refl _ _, trivial⟩
      refine me_run (m := 18) rfl trivial ?_
      repeat w_go kw_rely
      refine Goes.stop (fun w₁ h₁ => ?_)
      replace hF := kw_rely hF h₁
      replace F6 := F6.rely hF.1
      clear h₁ hF
      exact ih (k + 1) _ _ _ _ _ (by omega) F6 rfl rfl rfl rfl rfl (by simp)
end
end Go.Proofs.YtienepcknafddaaDoor
end
