/- WALK: the document's line. -/
import Derived.Test.YtfejlkgddnamoaaGreatDoorBkTexts
import Derived.Test.YtfejlkgddnamoaaGreatDoorBkRef2
import Derived.Test.YtfejlkgddnamoaaGreatDoorBkRef3
import Derived.Test.YtfejlkgddnamoaaGreatDoorDocNums
set_option linter.unusedVariables false
set_option linter.unusedSimpArgs false
namespace Go.Proofs.YtfejlkgddnamoaaGreatDoor
open Go Go.RowKit SimPlain HeapPlain BookPlain NumPlain SpPlain

/-- the document's book in a state: its row of what waits -/
structure DocS (w : World) (st : St) (a : Option Addr) (c : Nat) (l : List Ev) : Prop where
  row : ∃ B, EtOwn w B a c l
  two : Two l st.q st.seq
  zero : l = [] → a = none ∧ c = 0
  many : l.length ≤ 60
  txt : st.T.length ≤ 150000000
def docV (st : St) (a : Option Addr) (c : Nat) (l : List Ev) : Value := .agg #[.slice a l.length c, .string ⟨st.T.toArray⟩]
theorem DocS.below {w w' : World} {st : St} {a : Option Addr} {c : Nat} {l : List Ev} (h : DocS w st a c l) (b : Below w.heap.size w w') : DocS w' st a c l := by
  obtain ⟨B, hB⟩ := h.row
  exact ⟨⟨B, hB.same fun k hk => b.block k (hB.lt k hk).2⟩, h.two, h.zero, h.many, h.txt⟩
def DLineRes (r : St × Int) (w : World) (e : Ending) (w' : World) : Prop :=
  (∃ a c l, e = .returned (.tuple #[docV r.1 a c l, .int .i64 r.2]) ∧ DocS w' r.1 a c l) ∧ Below w.heap.size w w'
theorem DocS.push {w : World} {st : St} {a : Option Addr} {c : Nat} {l : List Ev} (h : DocS w st a c l) (hT : st.T.length ≤ 140000000) (key id : Int) :
    Calls Tryz.prog 61 #[docV st a c l, .agg #[.int .i64 key, .int .i64 id]] w fun e w' => DLineRes (pushS st ⟨key, id, 0⟩, pcode st ⟨key, id, 0⟩) w e w' := by
  have hl : st.q.length = l.length := h.two.len
  cases hok : okE ⟨key, id, 0⟩ with
  | false =>
    have e1 : pushS st ⟨key, id, 0⟩ = st := by unfold pushS; rw [if_neg (by rw [hok]; decide)]
    have e2 : pcode st ⟨key, id, 0⟩ = 1 := by unfold pcode; rw [if_neg (by rw [hok]; decide)]
    rw [e1, e2]
    refine (rpush_bad a l.length c ⟨st.T.toArray⟩ key id w hok).mono ?_
    rintro e w' ⟨rfl, b⟩
    exact ⟨⟨a, c, l, rfl, h.below b⟩, b⟩
  | true =>
    rcases Nat.lt_or_ge l.length 60 with h60 | h60
    · have e1 : pushS st ⟨key, id, 0⟩ = ⟨ins ⟨key, id, st.seq + 1⟩ st.q, st.seq + 1, st.T ++ lineB (pushB key id)⟩ := by unfold pushS; rw [if_pos hok, if_pos (by omega)]
      have e2 : pcode st ⟨key, id, 0⟩ = 0 := by unfold pcode; rw [if_pos hok, if_pos (by omega)]
      rw [e1, e2]
      obtain ⟨B, hB⟩ := h.row
      obtain ⟨t0, t1, d0, d1⟩ := okE_of hok
      have hpl := lineB_len (pushB key id) (pushB_len key id t0 t1 d0 d1)
      refine (rpush_ok B l a c st.T key id (st.seq + 1) w hB h.zero hok h60 (by omega)).mono ?_
      rintro e w' ⟨a', c', rfl, hO, b⟩
      refine ⟨⟨a', c', l ++ [⟨key, id, st.seq + 1⟩], ?_, ⟨⟨_, hO⟩, h.two.plan key id, fun h => absurd h (by simp), by simp; omega, by show (st.T ++ lineB (pushB key id)).length ≤ _; rw [List.length_append]; omega⟩⟩, b⟩
      unfold docV
      simp
    · have e1 : pushS st ⟨key, id, 0⟩ = st := by unfold pushS; rw [if_pos hok, if_neg (by omega)]
      have e2 : pcode st ⟨key, id, 0⟩ = 4 := by unfold pcode; rw [if_pos hok, if_neg (by omega)]
      rw [e1, e2]
      refine (rpush_full a l.length c ⟨st.T.toArray⟩ key id w hok h60).mono ?_
      rintro e w' ⟨rfl, b⟩
      exact ⟨⟨a, c, l, rfl, h.below b⟩, b⟩
theorem DocS.pop {w : World} {st : St} {a : Option Addr} {c : Nat} {l : List Ev} (h : DocS w st a c l) (hT : st.T.length ≤ 140000000) :
    Calls Tryz.prog 58 #[docV st a c l] w fun e w' => (∃ k d a' c' l', e = .returned (.tuple #[docV (popS st).1 a' c' l', .agg #[.int .i64 k, .int .i64 d], .int .i64 (popS st).2]) ∧ DocS w' (popS st).1 a' c' l' ∧ (∀ x q, st.q = x :: q → k = x.t ∧ d = x.id ∧ ∀ j, (Value.slice a' l'.length c').ownBlock = some j → w.heap.size ≤ j)) ∧ Below w.heap.size w w' := by
  obtain ⟨q, seq, T⟩ := st
  have hl : q.length = l.length := h.two.len
  cases q with
  | nil =>
    have hl0 : l = [] := List.eq_nil_of_length_eq_zero (by rw [← hl]; rfl)
    obtain ⟨rfl, rfl⟩ := h.zero hl0
    subst hl0
    refine (rpop_none ⟨T.toArray⟩ w).mono ?_
    rintro e w' ⟨rfl, b⟩
    exact ⟨⟨_, _, none, 0, [], rfl, h.below b, fun x q e => by cases e⟩, b⟩
  | cons x q =>
    have hpos : 0 < l.length := by rw [← hl]; simp
    obtain ⟨kk, hkk⟩ := first_exists hpos
    obtain ⟨q', hq, h2⟩ := h.two.first hkk
    simp only [List.cons.injEq] at hq
    obtain ⟨hx, rfl⟩ := hq
    obtain ⟨B, hB⟩ := h.row
    have h2l := lineB_len popB (by decide)
    have hT' : T.length ≤ 140000000 := hT
    refine (rpop_some B l kk hkk a c T w hB h.many (by omega)).mono ?_
    rintro e w' ⟨a', c', rfl, hO, hz, b⟩
    refine ⟨⟨_, _, a', c', l.eraseIdx kk, rfl, ⟨⟨_, hO⟩, h2, hz, ?_, ?_⟩, fun y r e => ?_⟩, b⟩
    · have := h2.len
      have h3 : q.length + 1 = l.length := by rw [← hl]; rfl
      have h4 := h.many
      omega
    · show (T ++ lineB popB).length ≤ _
      rw [List.length_append]; omega
    · simp only [List.cons.injEq] at e
      rw [← e.1, hx]; exact ⟨rfl, rfl, fun j hj => (hO.lt j hj).1⟩
theorem EtOwn.not_book {w : World} {B : Nat} {a : Option Addr} {cap : Nat} {l : List Ev} (h : EtOwn w B a cap l) {k : Nat} (hk : (Value.slice a l.length cap).ownBlock = some k) {cs : Array Value} {fr : Nat × Nat} (hb : w.heap[k]? = some (.cells cs 78 fr)) : False := by
  rcases h.2 with ⟨h', _⟩ | ⟨g, c, cur, h', _, hg, _⟩
  · rw [h'] at hk; simp [Value.ownBlock] at hk
  · rw [h'] at hk
    simp only [Value.ownBlock, Option.some.injEq] at hk
    subst hk
    rw [hg] at hb
    simp only [Option.some.injEq, Obj.cells.injEq] at hb
    exact absurd hb.2.1 (by decide)
theorem DocS.book {w w' : World} {st : St} {a : Option Addr} {c : Nat} {l : List Ev} {k : Nat} {cs : Array Value} {fr : Nat × Nat} (h : DocS w st a c l) (hb : w.heap[k]? = some (.cells cs 78 fr)) (o : Only w w' (fun j => j = k)) : DocS w' st a c l := by
  obtain ⟨B, hB⟩ := h.row
  exact ⟨⟨B, hB.same fun j hj => o.block j (hB.lt j hj).2 (fun e => by subst e; exact hB.not_book hj hb)⟩, h.two, h.zero, h.many, h.txt⟩
/-- the last space, looked for from behind -/
theorem last_of (s : List UInt8) (m : Nat) (hm : m < s.length) (h32 : s.getD m 0 = 32) (hno : (32 : UInt8) ∉ s.drop (m + 1)) : lastSp s = some m := by
  have e : s = s.take m ++ 32 :: s.drop (m + 1) := by
    conv => lhs; rw [← List.take_append_drop m s]
    rw [List.drop_eq_getElem_cons hm]
    rw [List.getD_eq_getElem?_getD, List.getElem?_eq_getElem hm] at h32
    congr 2
  have h := lastSp_cut (s.take m) (s.drop (m + 1)) hno
  rw [← e, List.length_take, Nat.min_eq_left (by omega)] at h
  exact h
theorem no_drop (s : List UInt8) (m : Nat) (hm : m < s.length) (h32 : s.getD m 0 ≠ 32) (hno : (32 : UInt8) ∉ s.drop (m + 1)) : (32 : UInt8) ∉ s.drop m := by
  rw [List.drop_eq_getElem_cons hm]
  rw [List.getD_eq_getElem?_getD, List.getElem?_eq_getElem hm] at h32
  intro h
  rcases List.mem_cons.1 h with h | h
  · exact h32 h.symm
  · exact hno h
theorem doc_fin {w W : World} {a : Option Addr} {c : Nat} {l : List Ev} {b1 : Nat} {cs : Array Value} {r : St × Int} (hb : w.heap.size ≤ b1) (low : Below w.heap.size w W) (h : DocS W r.1 a c l) (h1 : W.heap[b1]? = some (.cells cs 78 (0, 0))) (v0 v1 : Value) (V : World)
    (hV : V = (W.setCell ⟨b1, 0, none⟩ v0).setCell ⟨b1, 1, none⟩ v1) (e : Ending) (he : e = .returned (.tuple #[docV r.1 a c l, .int .i64 r.2])) : DLineRes r w e V := by
  have o : Only W V (fun j => j = b1) := by
    rw [hV]
    exact (Only.setCell W ⟨b1, 0, none⟩ v0 (fun j => j = b1) rfl).trans (Only.setCell _ ⟨b1, 1, none⟩ v1 (fun j => j = b1) rfl) (fun _ _ c => c)
  exact ⟨⟨a, c, l, he, h.book h1 o⟩, low.trans (o.below low.size (fun k c => by omega))⟩
set_option maxRecDepth 100000 in
set_option maxHeartbeats 4000000 in
theorem rline_any (st : St) (a : Option Addr) (c : Nat) (l : List Ev) (w : World) (h : DocS w st a c l) (hT : st.T.length ≤ 140000000) (s : List UInt8) (hs : s.length ≤ 2000000) :
    Calls Tryz.prog 86 #[docV st a c l, .string ⟨s.toArray⟩] w fun e w' => DLineRes (lineP st s) w e w' := by
  have HD := Lib.hid h
  have HT := Lib.hid hT
  obtain ⟨n, hn⟩ : ∃ n, n = l.length := ⟨_, rfl⟩
  obtain ⟨X, hX⟩ : ∃ X : ByteArray, X = ⟨st.T.toArray⟩ := ⟨_, rfl⟩
  have hdv : docV st a c l = .agg #[.slice a n c, .string X] := by rw [hn, hX]; rfl
  have HDv := Lib.hid hdv
  rw [hdv]
  obtain ⟨Y, hY⟩ : ∃ Y : ByteArray, Y = ⟨s.toArray⟩ := ⟨_, rfl⟩
  have hYs : Y.size = s.length := by rw [hY]; simp [ByteArray.size]
  have hYd : Y.data.toList = s := by rw [hY]
  have hsz : Y.size ≤ 2000000 := by omega
  rw [← hY]
  have HGet : Hid (∀ j (hj : j < Y.size), Y[j]'hj = s.getD j 0) := Lib.hid fun j hj => by
    subst hY
    rw [List.getD_eq_getElem?_getD, List.getElem?_eq_getElem (by omega)]
    rfl
  have HYs := Lib.hid hYs
  have HYd := Lib.hid hYd
  obtain ⟨W0, hW0⟩ : ∃ W0, W0 = (w.alloc (.cells #[.slice a n c, .string X] 78)).alloc (.cells #[.slice none 0 0, .string ⟨#[]⟩] 78) := ⟨_, rfl⟩
  have hb0 : W0.heap[w.heap.size]? = some (.cells #[.slice a n c, .string X] 78 (0, 0)) := by
    rw [hW0, Below.heap_alloc _ _ _ (by simp)]; exact heap_alloc_new _ _
  have hb1 : W0.heap[w.heap.size + 1]? = some (.cells #[.slice none 0 0, .string ⟨#[]⟩] 78 (0, 0)) := by
    have h := heap_alloc_new (w.alloc (.cells #[.slice a n c, .string X] 78)) (.cells #[.slice none 0 0, .string ⟨#[]⟩] 78)
    rw [World.size_alloc] at h
    rw [hW0]; exact h
  have low : Below w.heap.size w W0 := by rw [hW0]; exact ((Below.refl _ w).alloc (Nat.le_refl _) _).alloc (by simp) _
  have hs0 : W0.heap.size = w.heap.size + 2 := by rw [hW0]; simp
  have Hb0 := Lib.hid hb0
  have Hb1 := Lib.hid hb1
  have Low := Lib.hid low
  have Hs0 := Lib.hid hs0
  -- what lies in the two boxes, later on; what is told where nothing has changed
  have Later : Hid (∀ W, Below W0.heap.size W0 W → W.heap[w.heap.size]? = some (.cells #[.slice a n c, .string X] 78 (0, 0)) ∧ W.heap[w.heap.size + 1]? = some (.cells #[.slice none 0 0, .string ⟨#[]⟩] 78 (0, 0))) := Lib.hid fun W b =>
    ⟨(b.block _ (by omega)).trans hb0, (b.block _ (by omega)).trans hb1⟩
  have Stay : Hid (∀ (W : World) (code : Int), Below W0.heap.size W0 W → lineP st s = (st, code) → DLineRes (lineP st s) w (.returned (.tuple #[.agg #[.slice a n c, .string X], .int .i64 code])) ((W.setCell ⟨w.heap.size + 1, 0, none⟩ (.slice a n c)).setCell ⟨w.heap.size + 1, 1, none⟩ (.string X))) := Lib.hid fun W code b e => by
    have bW : Below w.heap.size w W := low.trans (b.mono low.size)
    have bV := (bW.setCell (p := ⟨w.heap.size + 1, 0, none⟩) (by show w.heap.size ≤ w.heap.size + 1; omega) (.slice a n c)).setCell (p := ⟨w.heap.size + 1, 1, none⟩) (by show w.heap.size ≤ w.heap.size + 1; omega) (.string X)
    rw [e]
    exact ⟨⟨a, c, l, by rw [hdv], h.below bV⟩, bV⟩
  clear h hT hn hX hdv hY hYs hYd hs hb0 hb1 low hs0
  go_enter Tryz.func86, Tryz.ntmps86
  go_wp2
  rw [← hW0]
  clear hW0
  go_loopw [6] (fun iv wr => ∃ m : Nat, iv = .int .i64 ((m : Int) - 1) ∧ m ≤ Y.size ∧ (32 : UInt8) ∉ s.drop m ∧ wr = W0) (fun iv _ => (intOf iv + 1).toNat)
  case atStart => exact ⟨Y.size, rfl, Nat.le_refl _, by rw [HYs.out]; simp, rfl⟩
  case round =>
    obtain ⟨m, rfl, hm, hno, rfl⟩ := hrel
    rcases Nat.eq_zero_or_pos m with h0 | h0
    · subst h0
      have hl : Hid (lineP st s = (st, 2)) := Lib.hid (by unfold lineP; rw [lastSp_no s (by simpa using hno)])
      have hm1 : (((0 : Nat) : Int) - 1) = -1 := rfl
      rw [hm1]
      have c0 : wr.cell? ⟨w.heap.size, 0, none⟩ = some (.slice a n c) := by have := Hb0.out; simp [World.cell?, this]
      have c1 : wr.cell? ⟨w.heap.size, 1, none⟩ = some (.string X) := by have := Hb0.out; simp [World.cell?, this]
      have f0 : wr.frozen? ⟨w.heap.size + 1, 0, none⟩ = false := by have := Hb1.out; simp [World.frozen?, this]
      have f1 : wr.frozen? ⟨w.heap.size + 1, 1, none⟩ = false := by have := Hb1.out; simp [World.frozen?, this]
      have d0 : wr.cell? ⟨w.heap.size + 1, 0, none⟩ = some (.slice none 0 0) := by have := Hb1.out; simp [World.cell?, this]
      have d1 : wr.cell? ⟨w.heap.size + 1, 1, none⟩ = some (.string ⟨#[]⟩) := by have := Hb1.out; simp [World.cell?, this]
      go_wp2
      refine bodyPost_ret (results_cellrow_tmp rfl _ _ (w.heap.size + 1) _ _ _ _ rfl (heap_setCell_same _ _ _ _ _ _ (heap_setCell_same _ _ _ _ _ _ Hb1.out)) Tryz.underlying78 rfl (by kernel_rfl)) rfl ?_
      exact Stay.out _ 2 (Below.refl _ _) hl.out
    · obtain ⟨at_, rfl⟩ : ∃ k, m = k + 1 := ⟨m - 1, by omega⟩
      have hcast : (((at_ + 1 : Nat) : Int) - 1) = (at_ : Int) := by omega
      rw [hcast]
      have hat : at_ < Y.size := by omega
      have hatI : (0 : Int) ≤ (at_ : Int) := by omega
      have hatI2 : (at_ : Int) < (Y.size : Int) := by omega
      by_cases h32 : s.getD at_ 0 = 32
      · have hb : ((((Y[at_]'hat).toNat : Nat) : Int) == 32) = true := by rw [HGet.out at_ hat, h32]; rfl
        have hlast := last_of s at_ (by rw [← HYs.out]; exact hat) h32 hno
        have hats : at_ + 1 ≤ Y.size := hat
        obtain ⟨W0, rfl⟩ : ∃ W, W = wr := ⟨_, rfl⟩
        have facts : Hid (∀ W, Below W0.heap.size W0 W → (W.cell? ⟨w.heap.size, 0, none⟩ = some (.slice a n c) ∧ W.cell? ⟨w.heap.size, 1, none⟩ = some (.string X)) ∧ (W.frozen? ⟨w.heap.size + 1, 0, none⟩ = false ∧ W.frozen? ⟨w.heap.size + 1, 1, none⟩ = false) ∧ W.cell? ⟨w.heap.size + 1, 0, none⟩ = some (.slice none 0 0) ∧ W.cell? ⟨w.heap.size + 1, 1, none⟩ = some (.string ⟨#[]⟩)) := Lib.hid fun W b => by
          obtain ⟨x0, x1⟩ := Later.out W b
          exact ⟨⟨by simp [World.cell?, x0], by simp [World.cell?, x0]⟩, ⟨by simp [World.frozen?, x1], by simp [World.frozen?, x1]⟩, by simp [World.cell?, x1], by simp [World.cell?, x1]⟩
        have hzd : (Y.extract 0 at_).data.toList = s.take at_ := by rw [Lib.extract_data, HYd.out]; simp
        have hxd : (Y.extract (at_ + 1) Y.size).data.toList = s.drop (at_ + 1) := by rw [Lib.extract_data, HYd.out]; exact List.take_of_length_le (by rw [List.length_drop]; have := HYs.out; omega)
        have hzb : Y.extract 0 at_ = ⟨(s.take at_).toArray⟩ := by apply ByteArray.ext; apply Array.toList_inj.1; rw [hzd]
        have hxb : Y.extract (at_ + 1) Y.size = ⟨(s.drop (at_ + 1)).toArray⟩ := by apply ByteArray.ext; apply Array.toList_inj.1; rw [hxd]
        have HNum : Hid (∀ W, Calls Tryz.prog 84 #[.string (Y.extract (at_ + 1) Y.size)] W fun e w' => DNumRes (s.drop (at_ + 1)) W e w') := Lib.hid fun W => by
          rw [hxb]; exact rnumber_any _ (by rw [List.length_drop]; have := HYs.out; omega) W
        obtain ⟨ws, hws⟩ : ∃ ws, ws = splitSp (s.take at_) := ⟨_, rfl⟩
        obtain ⟨m, hm'⟩ : ∃ m, m = sumB (s.take at_) := ⟨_, rfl⟩
        have HSum : Hid (∀ W, Calls Tryz.prog 102 #[.string (Y.extract 0 at_)] W fun e w' => e = .returned (.int .i64 (m : Nat)) ∧ w' = W) := Lib.hid fun W => by
          have h := rsum_any (Y.extract 0 at_) W (by rw [Lib.size_eq, hzd, List.length_take]; omega)
          rw [hzd, ← hm'] at h; exact h
        have HWords : Hid (∀ W, Calls Tryz.prog 56 #[.string (Y.extract 0 at_)] W fun e w' => ∃ g c, e = .returned (.slice (some ⟨g, 0, none⟩) ws.length c) ∧ (∀ i, i < ws.length → w'.cell? ⟨g, i, none⟩ = some (strV (ws.getD i []))) ∧ Below W.heap.size W w') := Lib.hid fun W => by
          have h := rwords_any (s.take at_) (by rw [List.length_take]; omega) W
          rw [← hzb] at h
          unfold WRes at h
          rw [← hws] at h; exact h
        have HL : Hid (lineP st s = match numP (s.drop (at_ + 1)) with
          | none => (st, 2)
          | some n => if n = (m : Nat) then wordsP st ws else (st, 7)) := Lib.hid (by unfold lineP; rw [hlast, hws, hm']; rfl)
        have HWl : Hid (∀ k, (ws.getD k []).length ≤ 2000000) := Lib.hid fun k => by
          rcases Nat.lt_or_ge k ws.length with c | c
          · have hm2 : ws.getD k [] ∈ splitSp (s.take at_) := by
              rw [← hws, List.getD_eq_getElem?_getD, List.getElem?_eq_getElem c]; exact List.getElem_mem c
            have := splitSp_le _ _ hm2
            rw [List.length_take] at this; have := HYs.out; omega
          · rw [List.getD_eq_getElem?_getD, List.getElem?_eq_none c]; simp
        have hsz2 : Y.size ≤ 9223372036854775806 := by omega
        clear hzd hxd hzb hxb hws hm' hlast h32 hno hsz
        obtain ⟨⟨c0, c1⟩, ⟨f0, f1⟩, d0, d1⟩ := facts.out W0 (Below.refl _ _)
        go_wp2_with fail
        refine (HNum.out _).mono ?_
        rintro e w1 ⟨v, b, rfl, ht, hf, rfl⟩
        cases b with
        | false =>
          have hl : Hid (lineP st s = (st, 2)) := Lib.hid (by rw [HL.out, hf rfl])
          clear ht hf
          go_wp2
          refine bodyPost_ret (results_cellrow_tmp rfl _ _ (w.heap.size + 1) _ _ _ _ rfl (heap_setCell_same _ _ _ _ _ _ (heap_setCell_same _ _ _ _ _ _ Hb1.out)) Tryz.underlying78 rfl (by kernel_rfl)) rfl ?_
          exact Stay.out _ 2 (Below.refl _ _) hl.out
        | true =>
          have hn := ht rfl
          have hl2 : Hid (lineP st s = if v = (m : Nat) then wordsP st ws else (st, 7)) := Lib.hid (by rw [HL.out, hn])
          clear ht hf hn
          go_wp2_with fail
          refine (HSum.out _).mono ?_
          rintro e w2 ⟨rfl, rfl⟩
          by_cases hnm : v = (m : Nat)
          · subst hnm
            have hl3 : Hid (lineP st s = wordsP st ws) := Lib.hid (by rw [hl2.out, if_pos rfl])
            go_wp2_with fail
            refine (HWords.out _).mono ?_
            rintro e w3 ⟨g, cw, rfl, hcs, hb3⟩
            have HB3 := Lib.hid hb3
            have HCs := Lib.hid hcs
            obtain ⟨⟨c0', c1'⟩, ⟨f0', f1'⟩, d0', d1'⟩ := facts.out w3 hb3
            obtain ⟨nw, hnw⟩ : ∃ nw, nw = ws.length := ⟨_, rfl⟩
            have HNw := Lib.hid hnw
            have HZ3 := Lib.hid (Later.out w3 hb3).2
            rw [← hnw]
            clear hb3 hcs hnw c0 c1 f0 f1 d0 d1
            by_cases h1 : nw = 1
            · have hc0 : w3.cell? ⟨g, 0, none⟩ = some (strV (ws.getD 0 [])) := HCs.out 0 (by have := HNw.out; omega)
              by_cases h0 : ws.getD 0 [] = popB
              · have hc00 : w3.cell? ⟨g, 0, none⟩ = some (.string ⟨#[112, 111, 112]⟩) := by rw [hc0, h0]; rfl
                have hl4 : Hid (lineP st s = popS st) := Lib.hid (by rw [hl3.out]; unfold wordsP; rw [if_pos ⟨by rw [← HNw.out]; exact h1, h0⟩])
                have low3 : Below w.heap.size w w3 := Low.out.trans (HB3.out.mono Low.out.size)
                have hpop := (HD.out.below low3).pop HT.out
                rw [HDv.out] at hpop
                have HPop := Lib.hid hpop
                have Low3 := Lib.hid low3
                subst h1
                clear hc0 h0 hpop low3
                go_wp2_with fail
                refine HPop.out.mono ?_
                rintro e w4 ⟨⟨kk, dd, a4, c4, l4, rfl, hD4, -⟩, hb4⟩
                have HD4 := Lib.hid hD4
                have HB4 := Lib.hid hb4
                clear hD4 hb4
                have hz4 : w4.heap[w.heap.size + 1]? = some (.cells #[.slice none 0 0, .string ⟨#[]⟩] 78 (0, 0)) := (HB4.out.block _ (lt_of_block HZ3.out)).trans HZ3.out
                have hlt4 : w.heap.size + 1 < w4.heap.size := lt_of_block hz4
                have HZ4 := Lib.hid hz4
                have g0 : w4.cell? ⟨w.heap.size + 1, 0, none⟩ = some (.slice none 0 0) := by simp [World.cell?, hz4]
                have g1 : w4.cell? ⟨w.heap.size + 1, 1, none⟩ = some (.string ⟨#[]⟩) := by simp [World.cell?, hz4]
                have k0 : w4.frozen? ⟨w.heap.size + 1, 0, none⟩ = false := by simp [World.frozen?, hz4]
                have k1 : w4.frozen? ⟨w.heap.size + 1, 1, none⟩ = false := by simp [World.frozen?, hz4]
                obtain ⟨code, hcode⟩ : ∃ x, x = (popS st).2 := ⟨_, rfl⟩
                rw [← hcode]
                have HCode := Lib.hid hcode
                obtain ⟨n4, hn4⟩ : ∃ x, x = l4.length := ⟨_, rfl⟩
                obtain ⟨X4, hX4⟩ : ∃ x : ByteArray, x = ⟨(popS st).1.T.toArray⟩ := ⟨_, rfl⟩
                have hdv4 : docV (popS st).1 a4 c4 l4 = .agg #[.slice a4 n4 c4, .string X4] := by rw [hn4, hX4]; rfl
                have HDv4 := Lib.hid hdv4
                have HE4 : Hid (Value.tuple #[.agg #[.slice a4 n4 c4, .string X4], .int .i64 code] = .tuple #[docV (popS st).1 a4 c4 l4, .int .i64 (popS st).2]) := Lib.hid (by rw [hdv4, hcode])
                rw [hdv4]
                clear hz4 hcode hn4 hX4 hdv4
                go_upto_region 14 with fail
                obtain ⟨W5, hW5⟩ : ∃ W5, W5 = (w4.alloc (.cells #[.slice a4 n4 c4, .string X4] 78)).alloc (.cells #[.int .i64 kk, .int .i64 dd] 30) := ⟨_, rfl⟩
                rw [← hW5]
                have b5 : Below w4.heap.size w4 W5 := by rw [hW5]; exact ((Below.refl _ w4).alloc (Nat.le_refl _) _).alloc (by simp) _
                have z5 : W5.heap[w.heap.size + 1]? = some (.cells #[.slice none 0 0, .string ⟨#[]⟩] 78 (0, 0)) := (b5.block _ hlt4).trans HZ4.out
                have y5 : W5.heap[w4.heap.size]? = some (.cells #[.slice a4 n4 c4, .string X4] 78 (0, 0)) := by
                  rw [hW5, Below.heap_alloc _ _ _ (by simp)]; exact heap_alloc_new _ _
                have p0 : W5.cell? ⟨w4.heap.size, 0, none⟩ = some (.slice a4 n4 c4) := by simp [World.cell?, y5]
                have p1 : W5.cell? ⟨w4.heap.size, 1, none⟩ = some (.string X4) := by simp [World.cell?, y5]
                have q0 : W5.cell? ⟨w.heap.size + 1, 0, none⟩ = some (.slice none 0 0) := by simp [World.cell?, z5]
                have q1 : W5.cell? ⟨w.heap.size + 1, 1, none⟩ = some (.string ⟨#[]⟩) := by simp [World.cell?, z5]
                have r0 : W5.frozen? ⟨w.heap.size + 1, 0, none⟩ = false := by simp [World.frozen?, z5]
                have r1 : W5.frozen? ⟨w.heap.size + 1, 1, none⟩ = false := by simp [World.frozen?, z5]
                have B5 := Lib.hid b5
                have Z5 := Lib.hid z5
                clear hW5 b5 z5 y5 g0 g1 k0 k1
                go_wp2
                refine bodyPost_ret (results_cellrow_tmp rfl _ _ (w.heap.size + 1) _ _ _ _ rfl (heap_setCell_same _ _ _ _ _ _ (heap_setCell_same _ _ _ _ _ _ Z5.out)) Tryz.underlying78 rfl (by kernel_rfl)) rfl ?_
                rw [hl4.out]
                exact doc_fin (r := popS st) (b1 := w.heap.size + 1) (by omega) ((Low3.out.trans (HB4.out.mono Low3.out.size)).trans (B5.out.mono (by omega))) (HD4.out.below B5.out) Z5.out _ _ _ rfl _ (congrArg Ending.returned HE4.out)
              · have hne : ((⟨(ws.getD 0 []).toArray⟩ : ByteArray).toList == [112, 111, 112]) = false := by
                  rw [beq_eq_false_iff_ne, ByteArray.toList_eq]; exact h0
                have hl4 : Hid (lineP st s = (st, 2)) := Lib.hid (by
                  rw [hl3.out]; unfold wordsP
                  rw [if_neg (fun c => h0 c.2), if_neg (fun c => by have := HNw.out; omega)])
                unfold strV at hc0
                obtain ⟨Y0, hY0⟩ : ∃ Y0 : ByteArray, Y0 = ⟨(ws.getD 0 []).toArray⟩ := ⟨_, rfl⟩
                rw [← hY0] at hc0 hne
                subst h1
                clear hY0 h0
                go_wp2
                refine bodyPost_ret (results_cellrow_tmp rfl _ _ (w.heap.size + 1) _ _ _ _ rfl (heap_setCell_same _ _ _ _ _ _ (heap_setCell_same _ _ _ _ _ _ HZ3.out)) Tryz.underlying78 rfl (by kernel_rfl)) rfl ?_
                exact Stay.out _ 2 HB3.out hl4.out
            · have h1b : ((nw : Int) == 1) = false := by rw [beq_eq_false_iff_ne]; omega
              have h1c : ¬ (nw : Int) = 1 := by omega
              by_cases h3 : nw = 3
              · have hc0 : w3.cell? ⟨g, 0, none⟩ = some (strV (ws.getD 0 [])) := HCs.out 0 (by have := HNw.out; omega)
                have hc1 : w3.cell? ⟨g, 1, none⟩ = some (strV (ws.getD 1 [])) := HCs.out 1 (by have := HNw.out; omega)
                have hc2 : w3.cell? ⟨g, 2, none⟩ = some (strV (ws.getD 2 [])) := HCs.out 2 (by have := HNw.out; omega)
                by_cases h0 : ws.getD 0 [] = pushW
                · have hc00 : w3.cell? ⟨g, 0, none⟩ = some (.string ⟨#[112, 117, 115, 104]⟩) := by rw [hc0, h0]; rfl
                  have hl4 : Hid (lineP st s = match numP (ws.getD 1 []), numP (ws.getD 2 []) with
                    | some k, some i => (pushS st ⟨k, i, 0⟩, pcode st ⟨k, i, 0⟩)
                    | _, _ => (st, 2)) := Lib.hid (by
                    rw [hl3.out]; unfold wordsP
                    rw [if_neg (fun c => by have := HNw.out; omega), if_pos ⟨by have := HNw.out; omega, h0⟩]; rfl)
                  have hN : ∀ k W, Calls Tryz.prog 84 #[strV (ws.getD k [])] W fun e w' => DNumRes (ws.getD k []) W e w' := fun k W =>
                    rnumber_any (ws.getD k []) (by have := HWl.out k; omega) W
                  obtain ⟨u1, hu1⟩ : ∃ u, u = ws.getD 1 [] := ⟨_, rfl⟩
                  obtain ⟨u2, hu2⟩ : ∃ u, u = ws.getD 2 [] := ⟨_, rfl⟩
                  have hN1 := hN 1
                  have hN2 := hN 2
                  unfold strV at hN1 hN2 hc1 hc2
                  rw [← hu1] at hc1 hl4 hN1
                  rw [← hu2] at hc2 hl4 hN2
                  obtain ⟨Y1, hY1⟩ : ∃ Y1 : ByteArray, Y1 = ⟨u1.toArray⟩ := ⟨_, rfl⟩
                  obtain ⟨Y2, hY2⟩ : ∃ Y2 : ByteArray, Y2 = ⟨u2.toArray⟩ := ⟨_, rfl⟩
                  rw [← hY1] at hc1 hN1
                  rw [← hY2] at hc2 hN2
                  have HN1 := Lib.hid hN1
                  have HN2 := Lib.hid hN2
                  subst h3
                  clear hN h0 hc0 h1 hu1 hu2 hN1 hN2 hY1 hY2
                  go_wp2_with fail
                  refine (HN1.out _).mono ?_
                  rintro e w4 ⟨k1, b1, rfl, ht1, hf1, rfl⟩
                  have HT1 := Lib.hid ht1
                  have HF1 := Lib.hid hf1
                  clear ht1 hf1
                  go_wp2_with fail
                  refine (HN2.out _).mono ?_
                  rintro e w5 ⟨k2, b2, rfl, ht2, hf2, rfl⟩
                  have HT2 := Lib.hid ht2
                  have HF2 := Lib.hid hf2
                  clear ht2 hf2 hc2 hc1 hc00
                  cases b1 with
                  | false =>
                    have hl5 : Hid (lineP st s = (st, 2)) := Lib.hid (by rw [hl4.out, HF1.out rfl])
                    go_wp2
                    refine bodyPost_ret (results_cellrow_tmp rfl _ _ (w.heap.size + 1) _ _ _ _ rfl (heap_setCell_same _ _ _ _ _ _ (heap_setCell_same _ _ _ _ _ _ HZ3.out)) Tryz.underlying78 rfl (by kernel_rfl)) rfl ?_
                    exact Stay.out _ 2 HB3.out hl5.out
                  | true =>
                    cases b2 with
                    | false =>
                      have hl5 : Hid (lineP st s = (st, 2)) := Lib.hid (by rw [hl4.out, HF2.out rfl, HT1.out rfl])
                      go_wp2
                      refine bodyPost_ret (results_cellrow_tmp rfl _ _ (w.heap.size + 1) _ _ _ _ rfl (heap_setCell_same _ _ _ _ _ _ (heap_setCell_same _ _ _ _ _ _ HZ3.out)) Tryz.underlying78 rfl (by kernel_rfl)) rfl ?_
                      exact Stay.out _ 2 HB3.out hl5.out
                    | true =>
                      have hl5 : Hid (lineP st s = (pushS st ⟨k1, k2, 0⟩, pcode st ⟨k1, k2, 0⟩)) := Lib.hid (by rw [hl4.out, HT1.out rfl, HT2.out rfl])
                      have low3 : Below w.heap.size w w5 := Low.out.trans (HB3.out.mono Low.out.size)
                      have hpush := (HD.out.below low3).push HT.out k1 k2
                      rw [HDv.out] at hpush
                      have HPush := Lib.hid hpush
                      have Low3 := Lib.hid low3
                      clear hpush low3
                      go_wp2_with fail
                      refine HPush.out.mono ?_
                      rintro e w6 ⟨⟨a4, c4, l4, rfl, hD4⟩, hb4⟩
                      have HD4 := Lib.hid hD4
                      have HB4 := Lib.hid hb4
                      clear hD4 hb4
                      have hz4 : w6.heap[w.heap.size + 1]? = some (.cells #[.slice none 0 0, .string ⟨#[]⟩] 78 (0, 0)) := (HB4.out.block _ (lt_of_block HZ3.out)).trans HZ3.out
                      have HZ4 := Lib.hid hz4
                      have g0 : w6.cell? ⟨w.heap.size + 1, 0, none⟩ = some (.slice none 0 0) := by simp [World.cell?, hz4]
                      have g1 : w6.cell? ⟨w.heap.size + 1, 1, none⟩ = some (.string ⟨#[]⟩) := by simp [World.cell?, hz4]
                      have k0 : w6.frozen? ⟨w.heap.size + 1, 0, none⟩ = false := by simp [World.frozen?, hz4]
                      have k1' : w6.frozen? ⟨w.heap.size + 1, 1, none⟩ = false := by simp [World.frozen?, hz4]
                      obtain ⟨code, hcode⟩ : ∃ x, x = pcode st ⟨k1, k2, 0⟩ := ⟨_, rfl⟩
                      rw [← hcode]
                      obtain ⟨n4, hn4⟩ : ∃ x, x = l4.length := ⟨_, rfl⟩
                      obtain ⟨X4, hX4⟩ : ∃ x : ByteArray, x = ⟨(pushS st ⟨k1, k2, 0⟩).T.toArray⟩ := ⟨_, rfl⟩
                      have hdv4 : docV (pushS st ⟨k1, k2, 0⟩) a4 c4 l4 = .agg #[.slice a4 n4 c4, .string X4] := by rw [hn4, hX4]; rfl
                      have HE4 : Hid (Value.tuple #[.agg #[.slice a4 n4 c4, .string X4], .int .i64 code] = .tuple #[docV (pushS st ⟨k1, k2, 0⟩) a4 c4 l4, .int .i64 (pcode st ⟨k1, k2, 0⟩)]) := Lib.hid (by rw [hdv4, hcode])
                      rw [hdv4]
                      clear hz4 hcode hn4 hX4 hdv4
                      go_wp2
                      refine bodyPost_ret (results_cellrow_tmp rfl _ _ (w.heap.size + 1) _ _ _ _ rfl (heap_setCell_same _ _ _ _ _ _ (heap_setCell_same _ _ _ _ _ _ HZ4.out)) Tryz.underlying78 rfl (by kernel_rfl)) rfl ?_
                      rw [hl5.out]
                      exact doc_fin (r := (pushS st ⟨k1, k2, 0⟩, pcode st ⟨k1, k2, 0⟩)) (b1 := w.heap.size + 1) (by omega) (Low3.out.trans (HB4.out.mono Low3.out.size)) HD4.out HZ4.out _ _ _ rfl _ (congrArg Ending.returned HE4.out)
                · have hne : ((⟨(ws.getD 0 []).toArray⟩ : ByteArray).toList == [112, 117, 115, 104]) = false := by
                    rw [beq_eq_false_iff_ne, ByteArray.toList_eq]; exact h0
                  have hl4 : Hid (lineP st s = (st, 2)) := Lib.hid (by
                    rw [hl3.out]; unfold wordsP
                    rw [if_neg (fun c => by have := HNw.out; omega), if_neg (fun c => h0 c.2)])
                  unfold strV at hc0
                  obtain ⟨Y0, hY0⟩ : ∃ Y0 : ByteArray, Y0 = ⟨(ws.getD 0 []).toArray⟩ := ⟨_, rfl⟩
                  rw [← hY0] at hc0 hne
                  subst h3
                  clear hY0 h0 hc1 hc2 h1
                  go_wp2
                  refine bodyPost_ret (results_cellrow_tmp rfl _ _ (w.heap.size + 1) _ _ _ _ rfl (heap_setCell_same _ _ _ _ _ _ (heap_setCell_same _ _ _ _ _ _ HZ3.out)) Tryz.underlying78 rfl (by kernel_rfl)) rfl ?_
                  exact Stay.out _ 2 HB3.out hl4.out
              · have h3b : ((nw : Int) == 3) = false := by rw [beq_eq_false_iff_ne]; omega
                have h3c : ¬ (nw : Int) = 3 := by omega
                have hl4 : Hid (lineP st s = (st, 2)) := Lib.hid (by
                  rw [hl3.out]; unfold wordsP
                  rw [if_neg (fun c => by have := HNw.out; omega), if_neg (fun c => by have := HNw.out; omega)])
                clear h1 h3
                go_wp2
                refine bodyPost_ret (results_cellrow_tmp rfl _ _ (w.heap.size + 1) _ _ _ _ rfl (heap_setCell_same _ _ _ _ _ _ (heap_setCell_same _ _ _ _ _ _ HZ3.out)) Tryz.underlying78 rfl (by kernel_rfl)) rfl ?_
                exact Stay.out _ 2 HB3.out hl4.out
          · have hl3 : Hid (lineP st s = (st, 7)) := Lib.hid (by rw [hl2.out, if_neg hnm])
            have hnb : (v == (m : Int)) = false := by rw [beq_eq_false_iff_ne]; exact hnm
            go_wp2
            refine bodyPost_ret (results_cellrow_tmp rfl _ _ (w.heap.size + 1) _ _ _ _ rfl (heap_setCell_same _ _ _ _ _ _ (heap_setCell_same _ _ _ _ _ _ Hb1.out)) Tryz.underlying78 rfl (by kernel_rfl)) rfl ?_
            exact Stay.out _ 7 (Below.refl _ _) hl3.out
      · have hb : ((((Y[at_]'hat).toNat : Nat) : Int) == 32) = false := by
          rw [HGet.out at_ hat, beq_eq_false_iff_ne]
          intro e
          apply h32
          apply UInt8.toNat_inj.1
          have e32 : (32 : UInt8).toNat = 32 := rfl
          omega
        have HNo := Lib.hid (no_drop s at_ (by rw [← HYs.out]; exact hat) h32 hno)
        clear h32 hno
        go_wp2
        go_roundw
        case rel => exact ⟨at_, rfl, by omega, HNo.out, trivial⟩
        case measure => simp only [intOf]; omega
end Go.Proofs.YtfejlkgddnamoaaGreatDoor
