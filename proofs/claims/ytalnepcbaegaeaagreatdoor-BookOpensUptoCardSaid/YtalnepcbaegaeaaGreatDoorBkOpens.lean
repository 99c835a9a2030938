/- WALK: the law BookOpens. -/
import Derived.Test.YtalnepcbaegaeaaGreatDoorDocOpen
import Derived.Test.YtalnepcbaegaeaaGreatDoorBkOpen
import Derived.Test.YtalnepcbaegaeaaGreatDoorBkDrain
import Derived.Test.YtalnepcbaegaeaaGreatDoorBkSame
import Derived.Test.YtalnepcbaegaeaaGreatDoorErr
import Derived.Deep.RegionHeld3
set_option linter.unusedVariables false
set_option linter.unusedSimpArgs false
namespace Go.Proofs.YtalnepcbaegaeaaGreatDoor
open Go Go.RowKit SimPlain HeapPlain BookPlain NumPlain SpPlain LinesPlain

theorem lines_count : ∀ (n : Nat) (s : List UInt8), s.length ≤ n → (linesOf s).length ≤ s.length := by
  intro n
  induction n with
  | zero =>
    intro s h
    obtain rfl := List.eq_nil_of_length_eq_zero (Nat.le_zero.1 h)
    rw [linesOf_nil]; exact Nat.le_refl _
  | succ n ih =>
    intro s h
    by_cases h0 : s = []
    · rw [h0, linesOf_nil]; exact Nat.le_refl _
    · rw [linesOf_cut s h0]
      have h1 := cutL_len s h0
      have h2 := cutL_sum s
      have := ih (cutL s).2 (by omega)
      rw [List.length_cons]
      omega
/-- between two pops of the document's book -/
structure OpensI (w2 : World) (b3 : Nat) (q0 : List Ev) (i : Nat) (st : St) (a : Option Addr) (c n : Nat) (X : ByteArray) (l : List Ev) (wa : Option Addr) (wc : Nat) (pre : List Ev) (wr : World) : Prop where
  cut : pre ++ st.q = q0
  len : pre.length = i
  doc : DocS wr st a c l
  hv : docV st a c l = .agg #[.slice a n c, .string X]
  hn : n = l.length
  box : wr.heap[b3]? = some (.cells #[.slice a n c, .string X] 24 (0, 0))
  row : EtOwn wr w2.heap.size wa wc pre
  sep : ∀ k, (Value.slice wa pre.length wc).ownBlock = some k → (Value.slice a l.length c).ownBlock ≠ some k
  txt : st.T.length ≤ 110000000 + 90 * i
  only : Only w2 wr (fun k => k = b3)
  lt : b3 < w2.heap.size
theorem EtOwn.toA' {w : World} {B : Nat} {a : Option Addr} {c : Nat} {l : List Ev} (h : EtOwn w B a c l) : EvA w a l := by
  rcases Nat.eq_zero_or_pos l.length with h0 | h0
  · exact .inl (List.eq_nil_of_length_eq_zero h0)
  · obtain ⟨g, rfl, _, hg, hc⟩ := h.open h0
    exact .inr ⟨g, 0, rfl, hg, fun i hi => by simpa using hc i hi⟩
theorem DocS.same {w w' : World} {st : St} {a : Option Addr} {c : Nat} {l : List Ev} (h : DocS w st a c l) (hs : ∀ k, (Value.slice a l.length c).ownBlock = some k → w'.heap[k]? = w.heap[k]?) : DocS w' st a c l := by
  obtain ⟨B, hB⟩ := h.row
  exact ⟨⟨B, hB.same hs⟩, h.two, h.zero, h.many, h.txt⟩
theorem DocS.lt {w : World} {st : St} {a : Option Addr} {c : Nat} {l : List Ev} (h : DocS w st a c l) {k : Nat} (hk : (Value.slice a l.length c).ownBlock = some k) : k < w.heap.size := by
  obtain ⟨B, hB⟩ := h.row
  exact (hB.lt k hk).2
theorem opens_next {w5 wr w6 V9 : World} {b3 i : Nat} {q0 q : List Ev} {x : Ev} {st st' : St} {a a' : Option Addr} {c c' n n' : Nat} {X X' : ByteArray} {l l' : List Ev} {wa : Option Addr} {wc : Nat} {pre : List Ev} {kv dv : Int}
    (hI : OpensI w5 b3 q0 i st a c n X l wa wc pre wr) (hq : st.q = x :: q) (hst : st'.q = q) (hT : st'.T.length ≤ st.T.length + 90) (hb6 : Below wr.heap.size wr w6) (hD6 : DocS w6 st' a' c' l')
    (hfr : ∀ k, (Value.slice a' l'.length c').ownBlock = some k → wr.heap.size ≤ k) (hv' : docV st' a' c' l' = .agg #[.slice a' n' c', .string X']) (hn' : n' = l'.length) (hk : kv = x.t) (hd : dv = x.id)
    (h9 : V9 = ((((w6.alloc (.cells #[.slice a' n' c', .string X'] 24)).alloc (.cells #[.int .i64 kv, .int .i64 dv] 36)).setCell ⟨b3, 0, none⟩ (.slice a' n' c')).setCell ⟨b3, 1, none⟩ (.string X')).alloc (.cells #[.int .i64 kv, .int .i64 dv] 36)) :
    V9.ownsRow w5.heap.size 36 2 (.slice wa i wc) i (flat2 pre) ∧ w5.heap.size ≤ V9.heap.size ∧ ∀ v' w8, w8.ownsRow w5.heap.size 36 2 v' (i + 1) (flat2 pre ++ [.int .i64 kv, .int .i64 dv]) → V9.grownBy w8 (Value.slice wa i wc).ownBlock →
      (v'.ownBlock = (Value.slice wa i wc).ownBlock ∨ v'.ownBlock = some V9.heap.size) → ∃ a2 c2, v' = .slice a2 (i + 1) c2 ∧ OpensI w5 b3 q0 (i + 1) st' a' c' n' X' l' a2 c2 (pre ++ [x]) w8 := by
  obtain ⟨W7, h7⟩ : ∃ W, W = (w6.alloc (.cells #[.slice a' n' c', .string X'] 24)).alloc (.cells #[.int .i64 kv, .int .i64 dv] 36) := ⟨_, rfl⟩
  obtain ⟨V8, h8⟩ : ∃ W, W = (W7.setCell ⟨b3, 0, none⟩ (.slice a' n' c')).setCell ⟨b3, 1, none⟩ (.string X') := ⟨_, rfl⟩
  rw [← h7, ← h8] at h9
  have o67 : Only w6 W7 (fun _ => False) := by rw [h7]; exact (Only.alloc _ _ (fun _ => False)).trans (Only.alloc _ _ (fun _ => False)) (fun _ _ c => c)
  have o78 : Only W7 V8 (fun j => j = b3) := by
    rw [h8]
    exact (Only.setCell W7 ⟨b3, 0, none⟩ _ (fun j => j = b3) rfl).trans (Only.setCell _ ⟨b3, 1, none⟩ _ (fun j => j = b3) rfl) (fun _ _ c => c)
  have o89 : Only V8 V9 (fun _ => False) := by rw [h9]; exact Only.alloc _ _ (fun _ => False)
  have hs5 := hI.only.size
  have hs6 := hb6.size
  have hs7 := o67.size
  have hs8 := o78.size
  have hs9 := o89.size
  have h3r := lt_of_block hI.box
  have x6 : w6.heap[b3]? = _ := (hb6.block _ h3r).trans hI.box
  have x7 : W7.heap[b3]? = some (.cells #[.slice a n c, .string X] 24 (0, 0)) := (o67.block _ (by omega) (fun c => c)).trans x6
  have x8 : V8.heap[b3]? = some (.cells #[.slice a' n' c', .string X'] 24 (0, 0)) := by rw [h8]; exact heap_setCell_same _ _ _ _ _ _ (heap_setCell_same _ _ _ _ _ _ x7)
  have x9 := (o89.block _ (by omega) (fun c => c)).trans x8
  have hD8 : DocS V8 st' a' c' l' := (hD6.below (o67.below (Nat.le_refl _) (fun _ c => c.elim))).book x7 o78
  have hD9 : DocS V9 st' a' c' l' := hD8.below (o89.below (Nat.le_refl _) (fun _ c => c.elim))
  have o69 : Only w6 V9 (fun j => j = b3) := ((o67.mono fun _ _ c => c.elim).trans o78 (fun _ _ c => c)).trans (o89.mono fun _ _ c => c.elim) (fun _ _ c => c)
  have hlt := hI.row.lt
  have hlen := hI.len
  have own1 : ∀ k, (Value.slice wa i wc).ownBlock = some k → w5.heap.size ≤ k ∧ k < wr.heap.size := fun k hk => by rw [← hlen] at hk; exact hlt k hk
  have hrow6 : EtOwn w6 w5.heap.size wa wc pre := hI.row.same fun k hk => hb6.block k (hlt k hk).2
  have hrow9 : EtOwn V9 w5.heap.size wa wc pre := hrow6.same fun k hk => o69.block k (by have := (hlt k hk).2; omega) (by have := (hlt k hk).1; have := hI.lt; omega)
  have o59 : Only w5 V9 (fun j => j = b3) := (hI.only.trans (only_of_below hb6 (fun j => j = b3)) (fun _ _ c => c)).trans o69 (fun _ _ c => c)
  refine ⟨by have h := hrow9; unfold EtOwn at h; rw [hlen] at h; exact h, by omega, fun v' w8 o gr hor => ?_⟩
  have e1 : flat2 pre ++ [.int .i64 kv, .int .i64 dv] = flat2 (pre ++ [x]) := by rw [flat2_append, hk, hd]; rfl
  rw [e1] at o
  obtain ⟨a2, c2, rfl, hE⟩ := EtOwn.of o
  have hl : (pre ++ [x]).length = i + 1 := by rw [List.length_append, hlen]; rfl
  have og : Only V9 w8 (fun k => (Value.slice wa i wc).ownBlock = some k) := ⟨gr.os, gr.tape, gr.output, gr.size, fun k hk hn => gr.block k hk (fun e => hn e.symm)⟩
  have hdl : ∀ k, (Value.slice a' l'.length c').ownBlock = some k → wr.heap.size ≤ k ∧ k < V9.heap.size := fun k hk => ⟨hfr k hk, hD9.lt hk⟩
  refine ⟨a2, c2, by rw [hl], ?_, hl, ?_, hv', hn', ?_, hE, fun k hk => ?_, ?_, ?_, hI.lt⟩
  · rw [hst, ← hI.cut, hq]; simp
  · exact hD9.same fun k hk => og.block k (hdl k hk).2 (fun e => by have := (own1 k e).2; have := (hdl k hk).1; omega)
  · exact (og.block _ (lt_of_block x9) (fun e => by have := (own1 _ e).1; have := hI.lt; omega)).trans x9
  · intro hk2
    have hd2 := hdl k hk2
    rw [hl] at hk
    rcases hor with e | e
    · have e2 : (Value.slice wa i wc).ownBlock = some k := by rw [← e, hl]; exact hk
      have := own1 k e2; omega
    · rw [hl] at e
      have e2 : k = V9.heap.size := Option.some.inj (hk.symm.trans e)
      omega
  · have := hI.txt; omega
  · exact o59.trans og (fun k hk c1 => by have := (own1 k c1).1; omega)
set_option maxRecDepth 100000 in
set_option maxHeartbeats 4000000 in
theorem BookOpens_walk (s : List UInt8) (w : World) (hs : s.length ≤ 1048576) (env : Env w) (hg : Handle w) :
    Calls Tryz.prog 3 #[.string ⟨s.toArray⟩] w fun e w' => e = .returned (.bool true) ∧ Below w.heap.size w w' := by
  have HEnv := Lib.hid env
  have HLc : Hid ((linesOf s).length ≤ 1048576) := Lib.hid (by have := lines_count _ s (Nat.le_refl _); omega)
  have HG := Lib.hid hg
  have hD := DOpen_any s w (by omega)
  have HB : Hid (∀ W, Below w.heap.size w W → Calls Tryz.prog 6 #[.string ⟨s.toArray⟩] W fun e w' => OpenRes s W e w') := Lib.hid fun W b =>
    Open_any s W (env.to b) (by omega) (by have := lines_count _ s (Nat.le_refl _); omega)
  obtain ⟨r, hr⟩ : ∃ r, r = openP st0 (linesOf s) := ⟨_, rfl⟩
  unfold DOpenRes at hD
  unfold OpenRes at HB
  rw [← hr] at hD HB
  obtain ⟨Y, hY⟩ : ∃ Y : ByteArray, Y = ⟨s.toArray⟩ := ⟨_, rfl⟩
  rw [← hY] at hD HB ⊢
  have HD := Lib.hid hD
  clear hD env hg hr hY
  go_enter Tryz.func3, Tryz.ntmps3
  go_wp2_with fail
  refine HD.out.mono ?_
  rintro e w1 ⟨hb1, ⟨h0, a, c, l, rfl, hdoc⟩ | ⟨h0, rfl⟩⟩
  · obtain ⟨m, hm⟩ : ∃ x, x = r.2.1 := ⟨_, rfl⟩
    obtain ⟨n, hn⟩ : ∃ n, n = l.length := ⟨_, rfl⟩
    obtain ⟨X, hX⟩ : ∃ X : ByteArray, X = ⟨r.1.T.toArray⟩ := ⟨_, rfl⟩
    have hdv : docV r.1 a c l = .agg #[.slice a n c, .string X] := by rw [hn, hX]; rfl
    rw [← hm, hdv]
    obtain ⟨W1, hW1⟩ : ∃ W1, W1 = w1.alloc (.cells #[.slice a n c, .string X] 24) := ⟨_, rfl⟩
    obtain ⟨b3, hb3⟩ : ∃ b, b = w1.heap.size := ⟨_, rfl⟩
    have hbW : Below w.heap.size w W1 := by rw [hW1]; exact hb1.alloc hb1.size _
    have hbox : W1.heap[b3]? = some (.cells #[.slice a n c, .string X] 24 (0, 0)) := by rw [hW1, hb3]; exact heap_alloc_new _ _
    have hdoc1 : DocS W1 r.1 a c l := hdoc.below (by rw [hW1]; exact (Below.refl _ w1).alloc (Nat.le_refl _) _)
    have hb3w : w.heap.size ≤ b3 := by rw [hb3]; exact hb1.size
    have HBW := Lib.hid hbW
    have HBox := Lib.hid hbox
    have HDoc := Lib.hid hdoc1
    have HDv := Lib.hid hdv
    have HX := Lib.hid hX
    have HN := Lib.hid hn
    have H3w := Lib.hid hb3w
    have HOpen := Lib.hid (HB.out W1 hbW)
    rw [← hm] at HOpen
    have HR0 := Lib.hid h0
    clear hbW hm h0 hb1 hbox hdoc hdoc1 hb3w hn hX hdv
    go_upto_region 2 with fail
    rw [← hW1, ← hb3]
    clear hW1 hb3
    go_wp2_with fail
    refine HOpen.out.mono ?_
    rintro e w2 ⟨hb2, ⟨-, S, F, i, B, hi, hWB, hBw, rfl, hS⟩ | ⟨h0, -⟩⟩
    · have h32 : b3 < W1.heap.size := lt_of_block HBox.out
      have hbox2 : w2.heap[b3]? = some (.cells #[.slice a n c, .string X] 24 (0, 0)) := (hb2.block _ h32).trans HBox.out
      have HB2 : Hid (Below w.heap.size w w2) := Lib.hid (HBW.out.trans (hb2.mono HBW.out.size))
      have hdoc2 := HDoc.out.below hb2
      have hqn : r.1.q.length = n := by rw [HN.out]; exact hdoc2.two.len
      have hbk := hS.book
      have hbkd : BookQ w2.drew B S F r.1.q r.1.seq r.1.T := hbk.only ((Only.refl w2 (fun _ => False)).drewN 1) (fun _ _ c => c)
      have hM := BMany_any S B F _ _ _ w2.drew hbkd hS.many
      rw [hqn] at hM
      have hTx := BText_any S B F _ _ _ w2.drew hbkd
      rw [← HX.out] at hTx
      have c0 : w2.drew.cell? ⟨b3, 0, none⟩ = some (.slice a n c) := by unfold World.cell?; rw [show w2.drew.heap[b3]? = _ from hbox2]; rfl
      have c1 : w2.drew.cell? ⟨b3, 1, none⟩ = some (.string X) := by unfold World.cell?; rw [show w2.drew.heap[b3]? = _ from hbox2]; rfl
      have hF3 : ¬ F b3 := fun c => by have := (hS.book.fb b3 c).1; omega
      have HM := Lib.hid hM
      have HT := Lib.hid hTx
      have HS := Lib.hid hS
      have HDoc2 := Lib.hid hdoc2
      have HBox2 := Lib.hid hbox2
      have HF3 := Lib.hid hF3
      have HQn := Lib.hid hqn
      have HWB := Lib.hid hWB
      have HBw := Lib.hid hBw
      have H32 := Lib.hid h32
      have HB12 := Lib.hid hb2
      have HI := Lib.hid hi
      clear hb2 hi hWB hBw hS h32 hbox2 hdoc2 hbk hbkd hM hTx hF3 hqn
      go_wp2_with fail
      go_region_held3 (fun w' => w'.cell? ⟨b3, 0, none⟩ = some (.slice a n c) ∧ w'.cell? ⟨b3, 1, none⟩ = some (.string X)) (first | exact ⟨c0, c1⟩ | exact ⟨c05, c15⟩ | go_keep) (first | (go_at_call 8; refine HM.out.mono ?_; rintro e w' ⟨rfl, rfl⟩) | (go_at_call 9; refine HT.out.mono ?_; rintro e w5 ⟨rfl, hQ5, o5⟩; have x5 : w5.heap[b3]? = _ := (o5.block _ (lt_of_block HBox2.out) HF3.out).trans HBox2.out; have c05 : w5.cell? ⟨b3, 0, none⟩ = some (.slice a n c) := (by simp [World.cell?, x5]); have c15 : w5.cell? ⟨b3, 1, none⟩ = some (.string X) := (by simp [World.cell?, x5]); have HQ5 := Lib.hid hQ5; have HO5 := Lib.hid o5; have X5 := Lib.hid x5; clear hQ5 o5 x5))
      have hsz5 : w2.heap.size ≤ w5.heap.size := HO5.out.size
      have H0 : Hid (OpensI w5 b3 r.1.q 0 r.1 a c n X l none 0 [] w5) := Lib.hid (by
        have b15 : Below W1.heap.size W1 w5 := HB12.out.trans (((below_drewN (Below.refl w2.heap.size w2) 1).mono HB12.out.size).trans (HO5.out.below HB12.out.size (fun k c => by have := (HS.out.book.fb k c).1; have := HWB.out; omega)))
        exact ⟨rfl, rfl, HDoc.out.below b15, HDv.out, HN.out, X5.out, EtOwn.nil _ _, fun k hk => by simp [Value.ownBlock] at hk, by have := HS.out.txt; have := HI.out; have := HLc.out; omega, Only.refl _ _, lt_of_block X5.out⟩)
      have hfin : Hid (∀ W, Only w5 W (fun k => k = b3) → Below w.heap.size w W) := Lib.hid fun W o => (HB2.out.trans (((below_drewN (Below.refl w2.heap.size w2) 1).mono HB2.out.size).trans (HO5.out.below HB2.out.size (fun k c => by have := (HS.out.book.fb k c).1; have := HWB.out; have := HBW.out.size; omega)))).trans (o.below (Nat.le_trans HB2.out.size hsz5) (fun k c => by have := H3w.out; omega))
      have HQ60 : Hid (r.1.q.length ≤ 60) := Lib.hid HS.out.many
      obtain ⟨i0, hi0, hz0, hz1, hz2⟩ := info_parts etInfo
      clear c0 c1 c05 c15 hsz5
      have HHB : Hid (B ≤ w5.heap.size) := Lib.hid (Nat.le_trans HBw.out HO5.out.size)
      have HTab5 : Hid (Tab w5) := Lib.hid (HEnv.out.to (hfin.out w5 (Only.refl _ _))).tab
      have HPB : Hid (4 < B) := Lib.hid (Nat.lt_of_lt_of_le HEnv.out.tab.lt (Nat.le_trans HBW.out.size HWB.out))
      have HTb : Hid (r.1.T.length ≤ 150000000) := Lib.hid (by have := HS.out.txt; have := HI.out; have := HLc.out; omega)
      go_wp2
      go_loopw [9] (fun wv wr => ∃ (i : Nat) (st : St) (a : Option Addr) (c n : Nat) (X : ByteArray) (l : List Ev) (wa : Option Addr) (wc : Nat) (pre : List Ev), wv = .slice wa i wc ∧ i ≤ 60 ∧ OpensI w5 b3 r.1.q i st a c n X l wa wc pre wr) (fun wv _ => match wv with | .slice _ k _ => 60 - k | _ => 0)
      case atStart => exact ⟨0, _, _, _, _, _, _, _, _, _, rfl, Nat.zero_le _, H0.out⟩
      case round =>
        obtain ⟨i, st, a1, c1, n1, X1, l1, wa, wc, pre, rfl, hi60, hI⟩ := hrel
        have x1 := hI.box
        have c0 : wr.cell? ⟨b3, 0, none⟩ = some (.slice a1 n1 c1) := by simp [World.cell?, x1]
        have c1' : wr.cell? ⟨b3, 1, none⟩ = some (.string X1) := by simp [World.cell?, x1]
        have hln := hI.doc.two.len
        have hn1 := hI.hn
        rcases hqq : st.q with _ | ⟨x, q⟩
        · have hn0 : n1 = 0 := by rw [hn1, ← hln, hqq]; rfl
          have hpre : pre = r.1.q := by have := hI.cut; rw [hqq] at this; simpa using this
          have hiN : i = r.1.q.length := by rw [← hI.len, hpre]
          have HII := Lib.hid hI
          obtain ⟨N, hN⟩ : ∃ N, N = r.1.q.length := ⟨_, rfl⟩
          have hDr := drained_any S B F r.1.q r.1.seq r.1.T wr (HQ5.out.only hI.only (fun k hk c => by rw [c] at hk; exact HF3.out hk)) HQ60.out (Nat.le_trans HHB.out hI.only.size) HPB.out (HTab5.out.only hI.only (fun c => by have := HPB.out; have := HWB.out; have := H3w.out; have := HEnv.out.tab.lt; omega)) HTb.out
          rw [← hN] at hDr
          have HDr := Lib.hid hDr
          have HPre := Lib.hid hpre
          have HN' := Lib.hid hN
          subst hn0
          rw [← hN] at hiN
          subst hiN
          clear hDr hln hn1 hI hpre hN hqq x1
          go_wp2_with fail
          refine HDr.out.mono ?_
          rintro e w6 ⟨F', T', a', c', rfl, hd⟩
          have hfb := HQ5.out.fb
          have hrow6 : EtOwn w6 w5.heap.size wa wc pre := HII.out.row.same fun k hk => hd.only.block k (HII.out.row.lt k hk).2 (fun c => by have := (HII.out.row.lt k hk).1; have := (hfb k c).2; omega)
          have hItems := Items_same r.1.q r.1.q a' wa c' wc i w6 HN'.out HN'.out (by omega) hd.row.toA' (by have := hrow6.toA'; rw [HPre.out] at this; exact this) (fun _ _ => ⟨rfl, rfl⟩)
          have HItems := Lib.hid hItems
          have HB6 : Hid (Below w.heap.size w w6) := Lib.hid ((hfin.out wr HII.out.only).trans (hd.only.below (hfin.out wr HII.out.only).size (fun k c => by have := (hfb k c).1; have := HWB.out; have := HBW.out.size; omega)))
          clear hd hfb hrow6 hItems
          go_wp2_with fail
          refine HItems.out.mono ?_
          rintro e w7 ⟨rfl, k7, rfl⟩
          go_wp2
          go_ret
          exact ⟨rfl, below_drewN HB6.out k7⟩
        · have hnp : 0 < n1 := by rw [hn1, ← hln, hqq]; exact Nat.succ_pos _
          have hnI : (0 : Int) < (n1 : Int) := by omega
          have hi59 : i < 60 := by
            have h1 := congrArg List.length hI.cut
            rw [List.length_append, hqq, hI.len] at h1
            have := HQ60.out
            simp at h1; omega
          have hPop := hI.doc.pop (by have := hI.txt; omega)
          rw [hI.hv] at hPop
          obtain ⟨st', hst'⟩ : ∃ st', st' = (popS st).1 := ⟨_, rfl⟩
          obtain ⟨code, hcode⟩ : ∃ x, x = (popS st).2 := ⟨_, rfl⟩
          have hq' : st'.q = q := by rw [hst']; obtain ⟨Q, sq, T⟩ := st; simp only at hqq; subst hqq; rfl
          have hT' : st'.T.length ≤ st.T.length + 90 := by
            rw [hst']; obtain ⟨Q, sq, T⟩ := st; simp only at hqq; subst hqq
            have := lineB_len popB (by decide)
            show (T ++ lineB popB).length ≤ T.length + 90
            rw [List.length_append]; omega
          rw [← hst', ← hcode] at hPop
          have HPop := Lib.hid hPop
          have HI' := Lib.hid hI
          have HQ' := Lib.hid hq'
          have HT' := Lib.hid hT'
          have HQQ := Lib.hid hqq
          have X1' := Lib.hid x1
          clear hPop hst' hcode hq' hT' hqq hI hln hn1 hnp hi60
          go_wp2_with fail
          refine HPop.out.mono ?_
          rintro e w6 ⟨⟨kv, dv, a', c', l', rfl, hD6, hkd⟩, hb6⟩
          obtain ⟨n', hn'⟩ : ∃ n', n' = l'.length := ⟨_, rfl⟩
          obtain ⟨X', hX'⟩ : ∃ X' : ByteArray, X' = ⟨st'.T.toArray⟩ := ⟨_, rfl⟩
          have hv' : docV st' a' c' l' = .agg #[.slice a' n' c', .string X'] := by rw [hn', hX']; rfl
          rw [hv']
          obtain ⟨hk, hd, hfr⟩ := hkd x q HQQ.out
          have h6 : b3 < w6.heap.size := Nat.lt_of_lt_of_le (lt_of_block X1'.out) hb6.size
          have x6 : w6.heap[b3]? = some (.cells #[.slice a1 n1 c1, .string X1] 24 (0, 0)) := (hb6.block _ (lt_of_block X1'.out)).trans X1'.out
          have hnext := fun V9 h9 => opens_next (V9 := V9) HI'.out HQQ.out HQ'.out HT'.out hb6 hD6 hfr hv' hn' hk hd h9
          have HNext := Lib.hid hnext
          have HX6 := Lib.hid x6
          have H6 := Lib.hid h6
          clear hnext hD6 hkd hb6 hX' hv' hk hd hfr x6 h6 c0 c1' x1 hn'
          go_upto_region 10 with fail
          obtain ⟨W7, hW7⟩ : ∃ W7, W7 = (w6.alloc (.cells #[.slice a' n' c', .string X'] 24)).alloc (.cells #[.int .i64 kv, .int .i64 dv] 36) := ⟨_, rfl⟩
          have s7 : W7.heap.size = w6.heap.size + 2 := by rw [hW7]; simp
          have x7 : W7.heap[b3]? = some (.cells #[.slice a1 n1 c1, .string X1] 24 (0, 0)) := by
            rw [hW7, Below.heap_alloc _ _ _ (by simp; have := H6.out; omega), Below.heap_alloc _ _ _ H6.out]; exact HX6.out
          have y7 : W7.heap[w6.heap.size]? = some (.cells #[.slice a' n' c', .string X'] 24 (0, 0)) := by
            rw [hW7, Below.heap_alloc _ _ _ (by simp)]; exact heap_alloc_new _ _
          have z7 : W7.heap[w6.heap.size + 1]? = some (.cells #[.int .i64 kv, .int .i64 dv] 36 (0, 0)) := by
            have h := heap_alloc_new (w6.alloc (.cells #[.slice a' n' c', .string X'] 24)) (.cells #[.int .i64 kv, .int .i64 dv] 36)
            rw [World.size_alloc] at h
            rw [hW7]; exact h
          obtain ⟨V8, hV8⟩ : ∃ V8, V8 = (W7.setCell ⟨b3, 0, none⟩ (.slice a' n' c')).setCell ⟨b3, 1, none⟩ (.string X') := ⟨_, rfl⟩
          have o78 : Only W7 V8 (fun j => j = b3) := by
            rw [hV8]
            exact (Only.setCell W7 ⟨b3, 0, none⟩ _ (fun j => j = b3) rfl).trans (Only.setCell _ ⟨b3, 1, none⟩ _ (fun j => j = b3) rfl) (fun _ _ c => c)
          have z8 : V8.heap[w6.heap.size + 1]? = some (.cells #[.int .i64 kv, .int .i64 dv] 36 (0, 0)) := (o78.block _ (lt_of_block z7) (by have := H6.out; omega)).trans z7
          have s8 : V8.heap.size = w6.heap.size + 2 := by rw [hV8]; simp [s7]
          obtain ⟨hO9, hs9, hres⟩ := HNext.out (V8.alloc (.cells #[.int .i64 kv, .int .i64 dv] 36)) (by rw [hV8, hW7])
          have p0 : W7.cell? ⟨w6.heap.size, 0, none⟩ = some (.slice a' n' c') := by simp [World.cell?, y7]
          have p1 : W7.cell? ⟨w6.heap.size, 1, none⟩ = some (.string X') := by simp [World.cell?, y7]
          have q0 : W7.cell? ⟨b3, 0, none⟩ = some (.slice a1 n1 c1) := by simp [World.cell?, x7]
          have q1 : W7.cell? ⟨b3, 1, none⟩ = some (.string X1) := by simp [World.cell?, x7]
          have r0 : W7.frozen? ⟨b3, 0, none⟩ = false := by simp [World.frozen?, x7]
          have r1 : W7.frozen? ⟨b3, 1, none⟩ = false := by simp [World.frozen?, x7]
          have u0 : V8.cell? ⟨w6.heap.size + 1, 0, none⟩ = some (.int .i64 kv) := by simp [World.cell?, z8]
          have u1 : V8.cell? ⟨w6.heap.size + 1, 1, none⟩ = some (.int .i64 dv) := by simp [World.cell?, z8]
          have HO9 := Lib.hid hO9
          have HS9 := Lib.hid hs9
          have HRes := Lib.hid hres
          rw [← hW7]
          clear hO9 hs9 hres x7 y7 z7 z8 o78 s7 hW7 s8
          go_upto_region 11 with fail
          rw [← hV8]
          clear hV8 p0 p1 q0 q1 r0 r1
          go_wp2_with (at_builtin; refine wpList_append_own_at _ rfl (.tmp 68) (.tmp 70) 22 rfl w5.heap.size 36 i0 (.agg #[.int .i64 0, .int .i64 0]) 2 16 Tryz.underlying22 hi0 hz0 hz1 hz2 rfl (by decide) (.slice wa i wc) i (flat2 pre) rfl HO9.out ⟨_, 0, none⟩ 1 1 [.int .i64 kv, .int .i64 dv] rfl rfl (et_cells_new _ _ _ _ _ rfl) (by simp [Value.oneCell']) (by unfold maxLen; omega) (by omega) HS9.out ?_; intro v2 w8 o8 g8 _ n8; obtain ⟨a2, c2, hv2, hd2⟩ := HRes.out v2 w8 o8 g8 (by simpa using n8); subst hv2; have HD2 := Lib.hid hd2; clear o8 g8 n8 hd2)
          go_roundw
          case rel => exact ⟨i + 1, _, _, _, _, _, _, a2, c2, _, by first | rfl | go_num, by omega, HD2.out⟩
          case measure => show 60 - (i + 1) < 60 - i; omega
    · exact absurd HR0.out h0
  · obtain ⟨code, hcode⟩ : ∃ x, x = r.2.2 := ⟨_, rfl⟩
    obtain ⟨m, hm⟩ : ∃ x, x = r.2.1 := ⟨_, rfl⟩
    rw [← hcode, ← hm]
    rw [← hcode] at h0
    obtain ⟨W1, hW1⟩ : ∃ W1, W1 = w1.alloc (.cells #[.slice none 0 0, .string ⟨#[]⟩] 24) := ⟨_, rfl⟩
    have hbW : Below w.heap.size w W1 := by rw [hW1]; exact hb1.alloc hb1.size _
    have HBW := Lib.hid hbW
    have HOpen := Lib.hid (HB.out W1 hbW)
    rw [← hcode, ← hm] at HOpen
    have hcb : (code == 0) = false := by rw [beq_eq_false_iff_ne]; exact h0
    have HC0 := Lib.hid h0
    clear hbW hcode hm h0 hb1
    go_upto_region 2 with fail
    rw [← hW1]
    clear hW1
    go_wp2_with fail
    refine HOpen.out.mono ?_
    rintro e w2 ⟨hb2, ⟨h0, -⟩ | ⟨-, rfl⟩⟩
    · exact absurd h0 HC0.out
    · have HB2 : Hid (Below w.heap.size w w2) := Lib.hid (HBW.out.trans (hb2.mono HBW.out.size))
      have HErr : Hid (Calls Tryz.prog 7 #[.iface 55 (.int .i64 code), .int .i64 code] w2 fun e w' => e = .returned (.bool true) ∧ Below w.heap.size w w') := Lib.hid (by
        have h := Error_any code code w2 (HG.out.to HB2.out)
        rw [errV_bad HC0.out] at h
        exact h.mono fun e w' ⟨h1, h2⟩ => ⟨by rw [h1]; simp, HB2.out.trans (h2.mono HB2.out.size)⟩)
      clear hb2
      go_wp2_with fail
      refine HErr.out.mono ?_
      rintro e w3 ⟨rfl, hb3⟩
      have HB3 := Lib.hid hb3
      clear hb3
      go_wp2
      go_ret
      exact ⟨rfl, HB3.out⟩
end Go.Proofs.YtalnepcbaegaeaaGreatDoor
