/- WALK: the law BookPlays. -/
import Derived.Test.YtalnepcbaegaeaaDoorBkRef2
import Derived.Test.YtalnepcbaegaeaaDoorBkRef3
import Derived.Test.YtalnepcbaegaeaaDoorErr
import Derived.Deep.DeepCutAuto
import Derived.Laws.StructEq
namespace Go.Proofs.YtalnepcbaegaeaaDoor
open Go Go.RowKit SimPlain HeapPlain BookPlain

theorem Err0 (w : World) (hg : Handle w) : Calls Tryd.prog 10 #[.nilIface, .int .i64 0] w fun e w' => e = .returned (.bool true) ∧ Below w.heap.size w w' := Error_any 0 0 w hg
theorem Err1 (n : Int) (hn : n ≠ 0) (w : World) (hg : Handle w) : Calls Tryd.prog 10 #[.iface 64 (.int .i64 n), .int .i64 n] w fun e w' => e = .returned (.bool true) ∧ Below w.heap.size w w' := by
  have := Error_any n n w hg
  rw [errV_bad hn] at this
  exact this.mono fun e w' h => ⟨by rw [h.1]; simp, h.2⟩
theorem item_guard (op : BinOp) (x y : Operand) (xs ys : Array Value) (w : World) : (eqGuard op 28 x y (.agg xs) (.agg ys)).run Tryd.prog w = .ok () w := run_eqGuard_agg w op _ x y xs ys (by kernel_rfl)

theorem item_neq (t id : Int) (w : World) : (binOp .neq 28 (.agg #[.int .i64 t, .int .i64 id]) (.agg #[.int .i64 t, .int .i64 id])).run Tryd.prog w = .ok (.bool false) w := by
  have u3 := Tryd.underlying3
  have a3 := Tryd.isAgg3
  have z3 := Tryd.sizeOf3
  have hS : Tryd.prog.underlying 28 = some (.struct (Tryd.prog.fieldsOf 28)) := by kernel_rfl
  have hp : Tryd.prog.stoodInHeld 28 = false := by kernel_rfl
  rw [run_neq_struct, show (10000 : Nat) = 9999 + 1 from rfl, run_equalIn_agg w 9999 28 _ _ hS hp]
  simp only [Program.fieldsOf, Tryd.underlying28]
  go_simp

/-- the document's book: its box R, its row -/
structure DocAt (wx : World) (B R : Nat) (a : Option Addr) (c : Nat) (l : List Ev) (T : List UInt8) : Prop where
  box : wx.heap[R]? = some (.cells #[.slice a l.length c, .string ⟨T.toArray⟩] 26 (0, 0))
  row : EtOwn wx B a c l
  nil : l = [] → a = none ∧ c = 0
  ne : ∀ k, (Value.slice a l.length c).ownBlock = some k → k ≠ R
theorem DocAt.only {wx wy : World} {B R : Nat} {a : Option Addr} {c : Nat} {l : List Ev} {T : List UInt8} {own : Nat → Prop} (h : DocAt wx B R a c l T) (o : Only wx wy own) (h1 : ¬ own R) (h2 : ∀ k, (Value.slice a l.length c).ownBlock = some k → ¬ own k) : DocAt wy B R a c l T :=
  ⟨(o.block R (lt_of_block h.box) h1).trans h.box, h.row.same fun k hk => o.block k (h.row.lt k hk).2 (h2 k hk), h.nil, h.ne⟩
/-- both books side by side -/
structure Both (wx : World) (B S R : Nat) (F : Nat → Prop) (l q : List Ev) (seq : Int) (T : List UInt8) (a : Option Addr) (c : Nat) : Prop where
  book : BookQ wx B S F q seq T
  two : Two l q seq
  doc : DocAt wx B R a c l T
  sep : ∀ k, F k → k ≠ R ∧ (Value.slice a l.length c).ownBlock ≠ some k
  hR : B ≤ R
  many : l.length ≤ 60
theorem Both.qlen {wx : World} {B S R : Nat} {F : Nat → Prop} {l q : List Ev} {seq : Int} {T : List UInt8} {a : Option Addr} {c : Nat} (h : Both wx B S R F l q seq T a c) : q.length = l.length := h.two.len
theorem EtOwn.ne_of {w : World} {B : Nat} {a : Option Addr} {cap : Nat} {l : List Ev} (h : EtOwn w B a cap l) {k : Nat} (hk : (Value.slice a l.length cap).ownBlock = some k) {cs : Array Value} {fr : Nat × Nat} (hb : w.heap[k]? = some (.cells cs 26 fr)) : False := by
  rcases h.2 with ⟨h', _⟩ | ⟨g, c, cur, h', _, hg, _⟩
  · rw [h'] at hk; simp [Value.ownBlock] at hk
  · rw [h'] at hk
    simp only [Value.ownBlock, Option.some.injEq] at hk
    subst hk
    rw [hg] at hb
    simp only [Option.some.injEq, Obj.cells.injEq] at hb
    exact absurd hb.2.1 (by decide)
/-- what a round keeps -/
def PlaysRel (w : World) (S R : Nat) (i : Nat) (wx : World) : Prop :=
  ∃ F l q seq T a c, Both wx w.heap.size S R F l q seq T a c ∧ 0 ≤ seq ∧ seq ≤ (i : Int) ∧ T.length ≤ 100 * i ∧ Below w.heap.size w wx
theorem lineB_len (s : List UInt8) (h : s.length ≤ 60) : (lineB s).length ≤ 90 := by
  unfold lineB
  have := itoa_len (sumB s : Nat) (by omega) (by have := sumAt_lt s s.length; unfold sumB; omega)
  simp; omega
theorem pushB_len (t id : Int) (h0 : -1000000 ≤ t) (h1 : t ≤ 1000000) (d0 : 0 ≤ id) (d1 : id ≤ 1000000) : (pushB t id).length ≤ 60 := by
  unfold pushB
  have := itoa_len t (by omega) (by omega)
  have := itoa_len id (by omega) (by omega)
  simp; omega
/-- behind the document's half of a round: its box turned, two cells of the call's own above -/
theorem mid_facts (w3 : World) (R : Nat) (u v u' v' : Value) (c6 c7 : Array Value) (t6 t7 : TypeId) (hR : w3.heap[R]? = some (.cells #[u, v] 26 (0, 0))) :
    ∃ W4, W4 = ((((w3.setCell ⟨R, 0, none⟩ u').setCell ⟨R, 1, none⟩ v').alloc (.cells c6 t6)).alloc (.cells c7 t7)) ∧ Only w3 W4 (fun j => j = R) ∧ W4.heap[R]? = some (.cells #[u', v'] 26 (0, 0)) ∧
      W4.heap[w3.heap.size]? = some (.cells c6 t6 (0, 0)) ∧ W4.heap[w3.heap.size + 1]? = some (.cells c7 t7 (0, 0)) ∧ W4.heap.size = w3.heap.size + 2 := by
  have hl := lt_of_block hR
  obtain ⟨V, hV⟩ : ∃ V, V = (w3.setCell ⟨R, 0, none⟩ u').setCell ⟨R, 1, none⟩ v' := ⟨_, rfl⟩
  have oV : Only w3 V (fun j => j = R) := by rw [hV]; exact (Only.setCell w3 ⟨R, 0, none⟩ u' (fun j => j = R) rfl).trans (Only.setCell _ ⟨R, 1, none⟩ v' (fun j => j = R) rfl) (fun _ _ c => c)
  have bV : V.heap[R]? = some (.cells #[u', v'] 26 (0, 0)) := by rw [hV]; exact heap_setCell_same _ _ _ _ _ _ (heap_setCell_same _ _ _ _ _ _ hR)
  have sV : V.heap.size = w3.heap.size := by rw [hV]; simp [World.setCell]
  have s1 : (V.alloc (.cells c6 t6)).heap.size = w3.heap.size + 1 := by simp [sV]
  refine ⟨_, rfl, ?_, ?_, ?_, ?_, ?_⟩
  · rw [← hV]
    exact (oV.trans (Only.alloc V _ (fun j => j = R)) (fun _ _ c => c)).trans (Only.alloc _ _ (fun j => j = R)) (fun _ _ c => c)
  · rw [← hV, Below.heap_alloc _ _ _ (by rw [s1]; omega), Below.heap_alloc _ _ _ (by rw [sV]; omega)]; exact bV
  · rw [← hV, Below.heap_alloc _ _ _ (by rw [s1]; omega), ← sV]; exact heap_alloc_new _ _
  · rw [← hV, ← s1]; exact heap_alloc_new _ _
  · rw [← hV]; simp [sV]
theorem item_cells {w : World} {g : Nat} {t id : Int} {T : TypeId} (h : w.heap[g]? = some (.cells #[.int .i64 t, .int .i64 id] T (0, 0))) : w.cell? ⟨g, 0, none⟩ = some (.int .i64 t) ∧ w.cell? ⟨g, 1, none⟩ = some (.int .i64 id) := ⟨by simp [World.cell?, h], by simp [World.cell?, h]⟩
theorem plays_next {w wr w3 W4 w5 w7 : World} {S R : Nat} {F : Nat → Prop} {l' q' : List Ev} {seq' : Int} {T' : List UInt8} {a3 : Option Addr} {c3 i : Nat} (hRl : R < wr.heap.size) (hR : w.heap.size ≤ R) (hF : ∀ k, F k → w.heap.size ≤ k ∧ k < wr.heap.size ∧ k ≠ R)
    (b2 : Below w.heap.size w wr) (b3 : Below wr.heap.size wr w3) (o34 : Only w3 W4 (fun j => j = R)) (box4 : W4.heap[R]? = some (.cells #[.slice a3 l'.length c3, .string ⟨T'.toArray⟩] 26 (0, 0)))
    (hQ5 : BookQ w5 w.heap.size S (Grow F W4 w5) q' seq' T') (o5 : Only W4 w5 F) (b7 : Below w5.heap.size w5 w7) (row3 : EtOwn w3 w.heap.size a3 c3 l') (nil3 : l' = [] → a3 = none ∧ c3 = 0) (rsep : ∀ k, (Value.slice a3 l'.length c3).ownBlock = some k → k ≠ R ∧ ¬ F k)
    (two : Two l' q' seq') (many : l'.length ≤ 60) (h0 : 0 ≤ seq') (h1 : seq' ≤ ((i + 1 : Nat) : Int)) (hT : T'.length ≤ 100 * (i + 1)) : PlaysRel w S R (i + 1) w7 := by
  have s3 := b3.size
  have s4 := o34.size
  have s5 := o5.size
  have s7 := b7.size
  have o57 : Only w5 w7 (fun _ => False) := only_of_below b7 _
  have hFR : ¬ F R := fun c => (hF R c).2.2 rfl
  have hlt3 := row3.lt
  refine ⟨Grow F W4 w5, l', q', seq', T', a3, c3, ⟨hQ5.only o57 (fun _ _ c => c), two, ⟨?_, ?_, nil3, fun k hk => (rsep k hk).1⟩, fun k hk => ⟨?_, fun d => ?_⟩, hR, many⟩, h0, h1, hT, ?_⟩
  · rw [o57.block R (by omega) (fun c => c), o5.block R (by omega) hFR]; exact box4
  · refine row3.same fun k hk => ?_
    have h2 := (hlt3 k hk).2
    have h3 := rsep k hk
    rw [o57.block k (by omega) (fun c => c), o5.block k (by omega) h3.2, o34.block k h2 h3.1]
  · rcases hk with hk | hk
    · exact (hF k hk).2.2
    · omega
  · rcases hk with hk | hk
    · exact (rsep k d).2 hk
    · have := (hlt3 k d).2; omega
  · have o : Only w w7 (fun k => w.heap.size ≤ k) := ((((only_of_below b2 (fun k => w.heap.size ≤ k)).trans (only_of_below b3 (fun k => w.heap.size ≤ k)) (fun _ _ h => h)).trans o34 (fun k _ c => by omega)).trans o5 (fun k _ c => (hF k c).1)).trans o57 (fun _ _ c => c.elim)
    exact o.below (Nat.le_refl _) (fun _ h => h)
theorem BookQ.grow {w : World} {B S : Nat} {F : Nat → Prop} {q : List Ev} {seq : Int} {T : List UInt8} (h : BookQ w B S F q seq T) (W : World) (hB : B ≤ W.heap.size) : BookQ w B S (Grow F W w) q seq T := by
  obtain ⟨H, a, cap, l, p, v, g⟩ := h
  exact ⟨H, a, cap, l, p, v, ⟨g.heap, g.ord, g.perm, g.sorted, g.top, g.s, g.pp, g.txt, g.tn, g.sep, fun k hk => .inl (g.foot k hk), .inl g.fs, fun k hk => .inl (g.fv k hk), fun k hk => by
    rcases hk with hk | hk
    · exact g.fb k hk
    · omega⟩⟩
theorem to_below {w wr W4 w5 : World} {R : Nat} {F : Nat → Prop} (hR : w.heap.size ≤ R) (hF : ∀ k, F k → w.heap.size ≤ k) (b2 : Below w.heap.size w wr) (o4 : Only wr W4 (fun j => j = R)) (o5 : Only W4 w5 F) : Below w.heap.size w w5 :=
  (((only_of_below b2 (fun k => w.heap.size ≤ k)).trans o4 (fun k _ c => by omega)).trans o5 (fun k _ c => hF k c)).below (Nat.le_refl _) (fun _ h => h)
/-- the document's new row, apart from the rest -/
structure DocRow (w : World) (R : Nat) (F : Nat → Prop) (wx : World) (a3 : Option Addr) (c3 : Nat) (l3 : List Ev) : Prop where
  row : EtOwn wx w.heap.size a3 c3 l3
  nil : l3 = [] → a3 = none ∧ c3 = 0
  sep : ∀ k, (Value.slice a3 l3.length c3).ownBlock = some k → k ≠ R ∧ ¬ F k
theorem DocRow.below {w : World} {R : Nat} {F : Nat → Prop} {wx wy : World} {a3 : Option Addr} {c3 : Nat} {l3 : List Ev} (h : DocRow w R F wx a3 c3 l3) (hb : Below wx.heap.size wx wy) : DocRow w R F wy a3 c3 l3 :=
  ⟨h.row.same fun k hk => hb.block k (h.row.lt k hk).2, h.nil, h.sep⟩
/-- behind the document's push, ahead of the box -/
def PushMid (w wr : World) (R : Nat) (F : Nat → Prop) (n3 : Nat) (Y3 : ByteArray) (code : Int) (l3 : List Ev) (s11 s12 : Value) (wx : World) : Prop :=
  ∃ (g11 : Nat) (a3 : Option Addr) (c3 : Nat), s11 = .pointer (some ⟨g11, 0, none⟩) ∧ s12 = .int .i64 code ∧ wr.heap.size ≤ g11 ∧ wx.heap[g11]? = some (.cells #[.slice a3 n3 c3, .string Y3] 26 (0, 0)) ∧ Below wr.heap.size wr wx ∧ DocRow w R F wx a3 c3 l3
/-- a push, three ways -/
theorem push_cases (w : World) (S R i : Nat) (F : Nat → Prop) (l q : List Ev) (seq : Int) (T : List UInt8) (a : Option Addr) (c : Nat) (key id : Int) (wr : World) (HB : Both wr w.heap.size S R F l q seq T a c) (hs0 : 0 ≤ seq) (hs1 : seq ≤ (i : Int)) (hi : i ≤ 140) (hT : T.length ≤ 100 * i) (b2 : Below w.heap.size w wr) (ht : Tab w) :
    ∃ (code : Int) (l3 : List Ev) (T3 : List UInt8) (q3 : List Ev) (seq3 : Int),
      (∀ W, Below wr.heap.size wr W → Calls Tryd.prog 11 #[.agg #[.slice a l.length c, .string ⟨T.toArray⟩], .agg #[.int .i64 key, .int .i64 id]] W fun e w' => ∃ a3 c3, e = .returned (.tuple #[.agg #[.slice a3 l3.length c3, .string ⟨T3.toArray⟩], .int .i64 code]) ∧ Below W.heap.size W w' ∧ DocRow w R F w' a3 c3 l3) ∧
      (∀ W, Only wr W (fun j => j = R) → Calls Tryd.prog 12 #[.pointer (some ⟨S, 0, none⟩), .agg #[.int .i64 key, .int .i64 id]] W fun e w' => e = .returned (errV 64 code) ∧ BookQ w' w.heap.size S (Grow F W w') q3 seq3 T3 ∧ Only W w' F) ∧
      Two l3 q3 seq3 ∧ l3.length ≤ 60 ∧ 0 ≤ seq3 ∧ seq3 ≤ ((i + 1 : Nat) : Int) ∧ T3.length ≤ 100 * (i + 1) := by
  have hsz := b2.size
  have old : ∀ W, Below wr.heap.size wr W → DocRow w R F W a c l := fun W hb => ⟨HB.doc.row.same fun k hk => hb.block k (HB.doc.row.lt k hk).2, HB.doc.nil, fun k hk => ⟨HB.doc.ne k hk, fun cF => (HB.sep k cF).2 hk⟩⟩
  have bk : ∀ W, Only wr W (fun j => j = R) → BookQ W w.heap.size S F q seq T := fun W o => HB.book.only o (fun k hk c => (HB.sep k hk).1 c)
  cases hok : okE ⟨key, id, 0⟩ with
  | false =>
    refine ⟨1, l, T, q, seq, fun W hb => ?_, fun W o => ?_, HB.two, HB.many, hs0, by omega, by omega⟩
    · refine (rpush_bad a l.length c ⟨T.toArray⟩ key id W hok).mono ?_
      rintro e w' ⟨rfl, b⟩
      exact ⟨a, c, rfl, b, (old W hb).below b⟩
    · refine (BPush_bad S w.heap.size F q seq T key id W hok).mono ?_
      rintro e w' ⟨rfl, b⟩
      exact ⟨by rw [errV_bad (by decide)], ((bk W o).only (only_of_below b (fun _ => False)) (fun _ _ c => c)).grow W (Nat.le_trans hsz o.size), only_of_below b F⟩
  | true =>
    rcases Nat.lt_or_ge l.length 60 with h60 | h60
    · obtain ⟨t0, t1, d0, d1⟩ := okE_of hok
      have hpl := lineB_len (pushB key id) (pushB_len key id t0 t1 d0 d1)
      refine ⟨0, l ++ [⟨key, id, seq + 1⟩], T ++ lineB (pushB key id), ins ⟨key, id, seq + 1⟩ q, seq + 1, fun W hb => ?_, fun W o => ?_, HB.two.plan key id, by rw [List.length_append]; simp; omega, by omega, by omega, by rw [List.length_append]; omega⟩
      · refine (rpush_ok w.heap.size l a c T key id (seq + 1) W (old W hb).row HB.doc.nil hok h60 (by omega)).mono ?_
        rintro e w' ⟨a3, c3, rfl, hO, b⟩
        refine ⟨a3, c3, by rw [List.length_append]; rfl, b, hO.mono (Nat.le_trans hsz hb.size), fun h => absurd h (by simp), fun k hk => ?_⟩
        have h1 := (hO.lt k hk).1
        have h2 := hb.size
        have h3 := lt_of_block HB.doc.box
        exact ⟨by omega, fun cF => by have := (HB.book.fb k cF).2; omega⟩
      · refine (BPush_ok S w.heap.size F q seq T key id W (bk W o) hok (by rw [HB.qlen]; exact h60) (Nat.le_trans hsz o.size) (ht.only ((only_of_below b2 (fun j => j = R)).trans o (fun _ _ c => c)) (fun c => by have := ht.lt; have := HB.hR; omega)) (by omega) (by omega) ht.lt).mono ?_
        rintro e w' ⟨rfl, hq, ho⟩
        exact ⟨by rw [errV_ok], hq, ho⟩
    · have hl60 : l.length = 60 := by have := HB.many; omega
      refine ⟨4, l, T, q, seq, fun W hb => ?_, fun W o => ?_, HB.two, HB.many, hs0, by omega, by omega⟩
      · refine (rpush_full a l.length c ⟨T.toArray⟩ key id W hok h60).mono ?_
        rintro e w' ⟨rfl, b⟩
        exact ⟨a, c, rfl, b, (old W hb).below b⟩
      · refine (BPush_full S w.heap.size F q seq T key id W (bk W o) hok (by rw [HB.qlen]; exact hl60)).mono ?_
        rintro e w' ⟨rfl, b⟩
        exact ⟨by rw [errV_bad (by decide)], ((bk W o).only (only_of_below b (fun _ => False)) (fun _ _ c => c)).grow W (Nat.le_trans hsz o.size), only_of_below b F⟩
/-- the two books on the scales -/
theorem weigh (w : World) (S R i : Nat) (wx : World) (h : PlaysRel w S R i wx) : ∃ (n c : Nat) (a : Option Addr) (Y : ByteArray), n ≤ 60 ∧
    (∀ W, Only wx W (fun _ => False) → W.cell? ⟨R, 0, none⟩ = some (.slice a n c) ∧ W.cell? ⟨R, 1, none⟩ = some (.string Y)) ∧
    (∀ W, Only wx W (fun _ => False) → Calls Tryd.prog 13 #[.pointer (some ⟨S, 0, none⟩)] W fun e w' => e = .returned (.int .i64 n) ∧ W = w') ∧
    (∀ W, Only wx W (fun _ => False) → Calls Tryd.prog 14 #[.pointer (some ⟨S, 0, none⟩)] W fun e w' => e = .returned (.string Y) ∧ PlaysRel w S R i w' ∧ w'.cell? ⟨R, 0, none⟩ = some (.slice a n c) ∧ w'.cell? ⟨R, 1, none⟩ = some (.string Y)) := by
  obtain ⟨F, l, q, seq, T, a, c, hB, hs0, hs1, hT, hb2⟩ := h
  have hFR : ¬ F R := fun d => (hB.sep R d).1 rfl
  have cells : ∀ W : World, W.heap[R]? = some (.cells #[.slice a l.length c, .string ⟨T.toArray⟩] 26 (0, 0)) → W.cell? ⟨R, 0, none⟩ = some (.slice a l.length c) ∧ W.cell? ⟨R, 1, none⟩ = some (.string ⟨T.toArray⟩) := fun W h => by simp [World.cell?, h]
  refine ⟨l.length, c, a, ⟨T.toArray⟩, hB.many, fun W o => cells W (hB.doc.only o (fun c => c) (fun _ _ c => c)).box, fun W o => ?_, fun W o => ?_⟩
  · refine (BMany_any S w.heap.size F q seq T W (hB.book.only o (fun _ _ c => c)) (by rw [hB.qlen]; exact hB.many)).mono ?_
    rintro e w' ⟨rfl, rfl⟩
    exact ⟨by rw [hB.qlen], rfl⟩
  · refine (BText_any S w.heap.size F q seq T W (hB.book.only o (fun _ _ c => c))).mono ?_
    rintro e w' ⟨rfl, hq, o2⟩
    have hd := (hB.doc.only o (fun c => c) (fun _ _ c => c)).only o2 hFR (fun k hk d => (hB.sep k d).2 hk)
    refine ⟨rfl, ⟨F, l, q, seq, T, a, c, ⟨hq, hB.two, hd, hB.sep, hB.hR, hB.many⟩, hs0, hs1, hT, ?_⟩, (cells w' hd.box).1, (cells w' hd.box).2⟩
    exact (((only_of_below hb2 (fun k => w.heap.size ≤ k)).trans o (fun _ _ c => c.elim)).trans o2 (fun k _ d => (hB.book.fb k d).1)).below (Nat.le_refl _) (fun _ h => h)
set_option maxRecDepth 100000 in
set_option maxHeartbeats 4000000 in
theorem BookPlays_walk (steps : List Ev) (a0 : Option Addr) (cap0 : Nat) (w : World) (hx : EvA w a0 steps) (hl : steps.length ≤ 9223372036854775807) (hg : Handle w) (htab : Tab w) :
    Calls Tryd.prog 3 #[.slice a0 steps.length cap0] w fun e w' => e = .returned (.bool true) ∧ Below w.heap.size w w' := by
  have HX := Lib.hid hx
  have HG := Lib.hid hg
  have HT := Lib.hid htab
  have hTl := htab.lt
  clear hx hg htab
  go_enter Tryd.func3, Tryd.ntmps3
  go_wp2_with fail
  refine (BNew_any w).mono ?_
  rintro e w1 ⟨S, rfl, hq, hb⟩
  have hR := heap_alloc_new w1 (.cells #[.slice none 0 0, .string ⟨#[]⟩] 26)
  have hstart : PlaysRel w S w1.heap.size 0 (w1.alloc (.cells #[.slice none 0 0, .string ⟨#[]⟩] 26)) := by
    have o := Only.alloc w1 (.cells #[.slice none 0 0, .string ⟨#[]⟩] 26) (fun _ => False)
    refine ⟨_, [], [], 0, [], none, 0, ⟨hq.only o (fun _ _ c => c), Two.zero, ⟨hR, EtOwn.nil _ _, fun _ => ⟨rfl, rfl⟩, fun k e => by simp [Value.ownBlock] at e⟩, fun k hk => ⟨by have := hk.2; omega, by simp [Value.ownBlock]⟩, hb.size, by simp⟩, by omega, by omega, by simp, hb.alloc hb.size _⟩
  have HSt := Lib.hid hstart
  clear hstart hR hq
  go_wp2
  generalize w1.heap.size = R at *
  go_loopw [5] (fun iv wr => ∃ i : Nat, iv = .int .i64 i ∧ i ≤ 140 ∧ PlaysRel w S R i wr) (fun iv _ => 140 - (intOf iv).toNat)
  case atStart => exact ⟨0, rfl, by omega, HSt.out⟩
  case round =>
    obtain ⟨i, rfl, hi, hrel⟩ := hrel
    have HRel := Lib.hid hrel
    clear hrel
    by_cases hgo : i < steps.length ∧ i < 140
    · obtain ⟨h1, h2⟩ := hgo
      have h2I : (i : Int) < 140 := by omega
      have h1I : (i : Int) < steps.length := by omega
      obtain ⟨F, l, q, seq, T, a, c, hB, hs0, hs1, hTl2, hb2⟩ := HRel.out
      obtain ⟨b, off, rfl, hblw, hc⟩ := HX.out.open (by omega)
      obtain ⟨c0, c1⟩ := hc i h1
      replace c0 := (hb2.cell (p := ⟨b, off + i * 2, none⟩) hblw).trans c0
      replace c1 := (hb2.cell (p := ⟨b, off + i * 2 + 1, none⟩) hblw).trans c1
      have hbl : b < wr.heap.size := by have := hb2.size; omega
      clear hc
      obtain ⟨key, hkey⟩ : ∃ k, k = (steps.getD i e0).t := ⟨_, rfl⟩
      obtain ⟨id, hid⟩ : ∃ k, k = (steps.getD i e0).id := ⟨_, rfl⟩
      rw [← hkey] at c0
      rw [← hid] at c1
      clear hkey hid
      have r0 : wr.cell? ⟨R, 0, none⟩ = some (.slice a l.length c) := by have := hB.doc.box; simp [World.cell?, this]
      have r1 : wr.cell? ⟨R, 1, none⟩ = some (.string ⟨T.toArray⟩) := by have := hB.doc.box; simp [World.cell?, this]
      have hRl : R < wr.heap.size := lt_of_block hB.doc.box
      have hm60 := hB.many
      have HB := Lib.hid hB
      have Hb2 := Lib.hid hb2
      clear hB hb2
      have hgd := item_guard
      have hnq := item_neq
      go_upto_if 29 with fail
      go_cut [5] (fun s5 wx => s5 = .int .i64 i ∧ PlaysRel w S R (i + 1) wx)
      case first =>
        by_cases h7 : id = 7
        · have h7B : (id == 7) = true := by rw [beq_iff_eq]; exact h7
          have H7 := Lib.hid h7
          clear h7
          by_cases hl0 : l = []
          · obtain ⟨rfl, rfl⟩ := HB.out.doc.nil hl0
            subst hl0
            have hq0 : q = [] := List.eq_nil_of_length_eq_zero (by rw [HB.out.qlen]; rfl)
            subst hq0
            have HP := Lib.hid (rpop_none ⟨T.toArray⟩ wr)
            have HPop : Hid (∀ W, Only wr W (fun j => j = R) → Calls Tryd.prog 9 #[.pointer (some ⟨S, 0, none⟩)] W fun e w' => e = .returned (.tuple #[.agg #[.int .i64 0, .int .i64 0], .iface 64 (.int .i64 5)]) ∧ BookQ w' w.heap.size S (Grow F W w') [] seq T ∧ Only W w' F) := Lib.hid fun W o => by
              have hq := HB.out.book.only o (fun k hk c => (HB.out.sep k hk).1 c)
              refine (BPop_none S w.heap.size F seq T W hq).mono ?_
              rintro e w' ⟨he, hb⟩
              exact ⟨he, (hq.only (only_of_below hb (fun _ => False)) (fun _ _ c => c)).grow W (Nat.le_trans Hb2.out.size o.size), only_of_below hb F⟩
            obtain ⟨Y3, hY3⟩ : ∃ Y : ByteArray, Y = ⟨T.toArray⟩ := ⟨_, rfl⟩
            rw [← hY3] at HP r1
            have HY3 := Lib.hid hY3
            have Hr1 := Lib.hid r1
            clear r1
            have r1 := Hr1.out
            clear hY3
            go_wp2_with fail
            refine HP.out.mono ?_
            rintro e w3 ⟨rfl, b3⟩
            have HB3 := Lib.hid b3
            have hbox3 := (b3.block R hRl).trans HB.out.doc.box
            have y0 : w3.cell? ⟨R, 0, none⟩ = some (.slice none 0 0) := by simp [World.cell?, hbox3]
            have y1 : w3.cell? ⟨R, 1, none⟩ = some (.string ⟨T.toArray⟩) := by simp [World.cell?, hbox3]
            have y2 : w3.frozen? ⟨R, 0, none⟩ = false := by simp [World.frozen?, hbox3]
            have y3 : w3.frozen? ⟨R, 1, none⟩ = false := by simp [World.frozen?, hbox3]
            have hR3 : R < w3.heap.size := by have := b3.size; omega
            obtain ⟨W4, hW4, o34, bR4, b64, b74, hs4⟩ := mid_facts w3 R _ _ (.slice none 0 0) (.string Y3) #[.slice none 0 0, .string Y3] #[.int .i64 0, .int .i64 0] 26 28 hbox3
            have HO34 := Lib.hid o34
            have HR4 := Lib.hid bR4
            have HT7 := Lib.hid b74
            have Hs4 := Lib.hid hs4
            clear b3 hbox3 o34 bR4 b64 b74 hs4
            go_upto_region 9 with fail
            try rw [← hW4]
            generalize hb6 : w3.heap.size = b6 at *
            have Hb6 := Lib.hid hb6
            clear hW4 y0 y1 y2 y3 hb6
            have HO4 := Lib.hid ((only_of_below HB3.out (fun j => j = R)).trans HO34.out (fun _ _ c => c))
            go_wp2_with fail
            refine (HPop.out W4 HO4.out).mono ?_
            rintro e w5 ⟨rfl, hQ5, o5⟩
            have hFlt : ∀ j, F j → j < wr.heap.size := fun j hj => (HB.out.book.fb j hj).2
            have hw3s := HB3.out.size
            have hT75 := (o5.block (b6 + 1) (by have := Hs4.out; omega) (fun c => by have := hFlt _ c; have := Hb6.out; omega)).trans HT7.out
            obtain ⟨v0, v1⟩ := item_cells hT75
            have HQ5 := Lib.hid hQ5
            have HO5 := Lib.hid o5
            have HT75 := Lib.hid hT75
            have h75l := lt_of_block hT75
            clear hQ5 o5 hT75
            have hb5 := to_below HB.out.hR (fun k hk => (HB.out.book.fb k hk).1) Hb2.out HO4.out HO5.out
            have hb5a : Below w.heap.size w (w5.alloc (.cells #[.int .i64 0, .int .i64 0] 28)) := hb5.alloc hb5.size _
            have HEr := Lib.hid (Err1 5 (by decide) (w5.alloc (.cells #[.int .i64 0, .int .i64 0] 28)) (HG.out.to hb5a))
            have HTa := Lib.hid (heap_alloc_new w5 (.cells #[.int .i64 0, .int .i64 0] 28))
            have HTb := Lib.hid ((Below.heap_alloc w5 (.cells #[.int .i64 0, .int .i64 0] 28) (b6 + 1) h75l).trans HT75.out)
            clear hb5 hb5a v0 v1
            go_wp2_with fail
            refine HEr.out.mono ?_
            rintro e w7 ⟨rfl, b7⟩
            have hsz : (w5.alloc (.cells #[.int .i64 0, .int .i64 0] 28)).heap.size = w5.heap.size + 1 := by simp
            obtain ⟨m0, m1⟩ := item_cells ((b7.block w5.heap.size (by omega)).trans HTa.out)
            obtain ⟨m2, m3⟩ := item_cells ((b7.block (b6 + 1) (by omega)).trans HTb.out)
            have hb57 : Below w5.heap.size w5 w7 := ((Below.refl _ _).alloc (Nat.le_refl _) _).trans (b7.mono (by omega))
            have hfin : PlaysRel w S R (i + 1) w7 := by
              refine plays_next (l' := []) (T' := T) (a3 := none) (c3 := 0) hRl HB.out.hR (fun j hj => ⟨(HB.out.book.fb j hj).1, (HB.out.book.fb j hj).2, (HB.out.sep j hj).1⟩) Hb2.out HB3.out HO34.out (by rw [← HY3.out]; exact HR4.out) HQ5.out HO5.out hb57 (EtOwn.nil _ _) (fun _ => ⟨rfl, rfl⟩) (fun j hj => by simp [Value.ownBlock] at hj) HB.out.two (by simp) hs0 (by omega) (by omega)
            have HFin := Lib.hid hfin
            clear hfin b7 hb57 hsz
            go_wp2_with fail
            go_meet
            exact ⟨rfl, HFin.out⟩
          · obtain ⟨k, hk⟩ := first_exists (List.length_pos_iff.2 hl0)
            obtain ⟨q', hqe, hTwo⟩ := HB.out.two.first hk
            have hP := rpop_some w.heap.size l k hk a c T wr HB.out.doc.row hm60 (by omega)
            have hkl := hk.lt
            obtain ⟨x, hxe⟩ : ∃ x, x = l.getD k e0 := ⟨_, rfl⟩
            obtain ⟨n3, hn3⟩ : ∃ n, n = (l.eraseIdx k).length := ⟨_, rfl⟩
            obtain ⟨Y3, hY3⟩ : ∃ Y : ByteArray, Y = ⟨(T ++ lineB popB).toArray⟩ := ⟨_, rfl⟩
            unfold PopYes at hP
            rw [← hxe, ← hn3, ← hY3] at hP
            rw [← hxe] at hqe
            subst hqe
            obtain ⟨xt, xi, xs⟩ := x
            simp only at hP
            have HN3 := Lib.hid hn3
            have HY3 := Lib.hid hY3
            have HTwo := Lib.hid hTwo
            have HP := Lib.hid hP
            have hql := HB.out.qlen
            have hq60 : q'.length < 60 := by simp at hql; omega
            have HPop : Hid (∀ W, Only wr W (fun j => j = R) → Calls Tryd.prog 9 #[.pointer (some ⟨S, 0, none⟩)] W fun e w' => PoppedRes S w.heap.size F ⟨xt, xi, xs⟩ q' seq T W e w') := Lib.hid fun W o =>
              BPop_some S w.heap.size F ⟨xt, xi, xs⟩ q' seq T W (HB.out.book.only o (fun k hk c => (HB.out.sep k hk).1 c)) hq60 (Nat.le_trans Hb2.out.size o.size) (HT.out.only ((only_of_below Hb2.out (fun j => j = R)).trans o (fun _ _ c => c)) (fun c => by have := HB.out.hR; omega)) (by omega)
            clear hP hn3 hY3 hxe hTwo hk hql
            go_wp2_with fail
            refine HP.out.mono ?_
            rintro e w3 ⟨a3, c3, rfl, hO3, hz3, b3⟩
            have HO3 := Lib.hid hO3
            have HZ3 := Lib.hid hz3
            have HB3 := Lib.hid b3
            have hbox3 := (b3.block R hRl).trans HB.out.doc.box
            have y0 : w3.cell? ⟨R, 0, none⟩ = some (.slice a l.length c) := by simp [World.cell?, hbox3]
            have y1 : w3.cell? ⟨R, 1, none⟩ = some (.string ⟨T.toArray⟩) := by simp [World.cell?, hbox3]
            have y2 : w3.frozen? ⟨R, 0, none⟩ = false := by simp [World.frozen?, hbox3]
            have y3 : w3.frozen? ⟨R, 1, none⟩ = false := by simp [World.frozen?, hbox3]
            have hR3 : R < w3.heap.size := by have := b3.size; omega
            obtain ⟨W4, hW4, o34, bR4, b64, b74, hs4⟩ := mid_facts w3 R _ _ (.slice a3 n3 c3) (.string Y3) #[.slice a3 n3 c3, .string Y3] #[.int .i64 xt, .int .i64 xi] 26 28 hbox3
            have HO34 := Lib.hid o34
            have HR4 := Lib.hid bR4
            have HT7 := Lib.hid b74
            have Hs4 := Lib.hid hs4
            clear hO3 hz3 b3 hbox3 o34 bR4 b64 b74 hs4
            go_upto_region 9 with fail
            try rw [← hW4]
            generalize hb6 : w3.heap.size = b6 at *
            have Hb6 := Lib.hid hb6
            clear hW4 y0 y1 y2 y3 hb6
            have hOa : Only wr w3 (fun j => j = R) := only_of_below HB3.out _
            have hO4 : Only wr W4 (fun j => j = R) := hOa.trans HO34.out (fun _ _ c => c)
            have HO4 := Lib.hid hO4
            clear hOa hO4
            go_wp2_with fail
            refine (HPop.out W4 HO4.out).mono ?_
            rintro e w5 ⟨rfl, hQ5, o5⟩
            have hFlt : ∀ j, F j → j < wr.heap.size := fun j hj => (HB.out.book.fb j hj).2
            have hw3s := HB3.out.size
            have hT75 := (o5.block (b6 + 1) (by have := Hs4.out; omega) (fun c => by have := hFlt _ c; have := Hb6.out; omega)).trans HT7.out
            obtain ⟨v0, v1⟩ := item_cells hT75
            have HQ5 := Lib.hid hQ5
            have HO5 := Lib.hid o5
            have HT75 := Lib.hid hT75
            have h75l := lt_of_block hT75
            clear hQ5 o5 hT75
            have hb5 := to_below HB.out.hR (fun k hk => (HB.out.book.fb k hk).1) Hb2.out HO4.out HO5.out
            have hb5a : Below w.heap.size w (w5.alloc (.cells #[.int .i64 xt, .int .i64 xi] 28)) := hb5.alloc hb5.size _
            have HEr := Lib.hid (Err0 (w5.alloc (.cells #[.int .i64 xt, .int .i64 xi] 28)) (HG.out.to hb5a))
            have HTa := Lib.hid (heap_alloc_new w5 (.cells #[.int .i64 xt, .int .i64 xi] 28))
            have HTb := Lib.hid ((Below.heap_alloc w5 (.cells #[.int .i64 xt, .int .i64 xi] 28) (b6 + 1) h75l).trans HT75.out)
            clear hb5 hb5a v0 v1
            simp only
            go_wp2_with fail
            refine HEr.out.mono ?_
            rintro e w7 ⟨rfl, b7⟩
            have hsz : (w5.alloc (.cells #[.int .i64 xt, .int .i64 xi] 28)).heap.size = w5.heap.size + 1 := by simp
            obtain ⟨m0, m1⟩ := item_cells ((b7.block w5.heap.size (by omega)).trans HTa.out)
            obtain ⟨m2, m3⟩ := item_cells ((b7.block (b6 + 1) (by omega)).trans HTb.out)
            have hb57 : Below w5.heap.size w5 w7 := ((Below.refl _ _).alloc (Nat.le_refl _) _).trans (b7.mono (by omega))
            have hfin : PlaysRel w S R (i + 1) w7 := by
              refine plays_next (l' := l.eraseIdx k) (T' := T ++ lineB popB) hRl HB.out.hR (fun j hj => ⟨(HB.out.book.fb j hj).1, (HB.out.book.fb j hj).2, (HB.out.sep j hj).1⟩) Hb2.out HB3.out HO34.out (by rw [← HN3.out, ← HY3.out]; exact HR4.out) HQ5.out HO5.out hb57 (HO3.out.mono (by have := Hb2.out.size; omega)) HZ3.out (fun j hj => ?_) HTwo.out ?_ hs0 (by omega) ?_
              · have := (HO3.out.lt j hj).1
                exact ⟨by omega, fun c => by have := (HB.out.book.fb j c).2; omega⟩
              · have := (List.length_eraseIdx_le l k); omega
              · rw [List.length_append]; have := lineB_len popB (by decide); omega
            have HFin := Lib.hid hfin
            clear hfin b7 hb57 hsz
            go_wp2_with fail
            go_meet
            exact ⟨rfl, HFin.out⟩
        · have h7B : (id == 7) = false := by rw [beq_eq_false_iff_ne]; exact h7
          have H7 := Lib.hid h7
          clear h7
          obtain ⟨code, l3, T3, q3, seq3, hPsh, hBp, two3, many3, n0, n1, nT⟩ := push_cases w S R i F l q seq T a c key id wr HB.out hs0 hs1 hi hTl2 Hb2.out HT.out
          have HPsh := Lib.hid hPsh
          have HBp := Lib.hid hBp
          have HTwo := Lib.hid two3
          obtain ⟨n3, hn3⟩ : ∃ n, n = l3.length := ⟨_, rfl⟩
          obtain ⟨Y3, hY3⟩ : ∃ Y : ByteArray, Y = ⟨T3.toArray⟩ := ⟨_, rfl⟩
          rw [← hn3, ← hY3] at HPsh
          have HN3 := Lib.hid hn3
          have HY3 := Lib.hid hY3
          clear hPsh hBp two3 hn3 hY3
          have hRn : ¬ R = wr.heap.size := by omega
          have hbn : ¬ b = wr.heap.size := by omega
          have HBA := Lib.hid (drewN_below (Below.refl wr.heap.size wr) 1)
          have HBB := Lib.hid (drewN_below ((Below.refl wr.heap.size wr).alloc (Nat.le_refl _) (.cells #[.slice none 0 0, .string ⟨#[]⟩] 26)) 1)
          have HMA : Hid (∀ (w3 : World) (a3 : Option Addr) (c3 : Nat), Below wr.drew.heap.size wr.drew w3 → DocRow w R F w3 a3 c3 l3 → Hid (PushMid w wr R F n3 Y3 code l3 (.pointer (some ⟨w3.heap.size, 0, none⟩)) (.int .i64 code) (w3.alloc (.cells #[.slice a3 n3 c3, .string Y3] 26)))) := Lib.hid fun w3 a3 c3 b3 d3 => Lib.hid (by
            have hb : Below wr.heap.size wr w3 := HBA.out.trans b3
            exact ⟨w3.heap.size, a3, c3, rfl, rfl, hb.size, heap_alloc_new _ _, hb.alloc hb.size _, d3.below ((Below.refl _ _).alloc (Nat.le_refl _) _)⟩)
          have HMB : Hid (∀ (w3 : World) (a3 : Option Addr) (c3 : Nat), Below (wr.alloc (.cells #[.slice none 0 0, .string ⟨#[]⟩] 26)).drew.heap.size (wr.alloc (.cells #[.slice none 0 0, .string ⟨#[]⟩] 26)).drew w3 → DocRow w R F w3 a3 c3 l3 →
              Hid (PushMid w wr R F n3 Y3 code l3 (.pointer (some ⟨wr.heap.size, 0, none⟩)) (.int .i64 code) ((w3.setCell ⟨wr.heap.size, 0, none⟩ (.slice a3 n3 c3)).setCell ⟨wr.heap.size, 1, none⟩ (.string Y3))) ∧
              w3.cell? ⟨wr.heap.size, 0, none⟩ = some (.slice none 0 0) ∧ w3.cell? ⟨wr.heap.size, 1, none⟩ = some (.string ⟨#[]⟩) ∧ w3.frozen? ⟨wr.heap.size, 0, none⟩ = false ∧ w3.frozen? ⟨wr.heap.size, 1, none⟩ = false) := Lib.hid fun w3 a3 c3 b3 d3 => by
            have hb : Below wr.heap.size wr w3 := HBB.out.trans (b3.mono (by show wr.heap.size ≤ (wr.alloc _).heap.size; simp))
            have hz : w3.heap[wr.heap.size]? = some (.cells #[.slice none 0 0, .string ⟨#[]⟩] 26 (0, 0)) := (b3.block wr.heap.size (by show wr.heap.size < (wr.alloc _).heap.size; simp)).trans (heap_alloc_new wr _)
            refine ⟨Lib.hid ⟨wr.heap.size, a3, c3, rfl, rfl, Nat.le_refl _, heap_setCell_same _ _ _ _ _ _ (heap_setCell_same _ _ _ _ _ _ hz), (hb.setCell (p := ⟨wr.heap.size, 0, none⟩) (Nat.le_refl _) _).setCell (p := ⟨wr.heap.size, 1, none⟩) (Nat.le_refl _) _, ⟨d3.row.same fun j hj => ?_, d3.nil, d3.sep⟩⟩, by simp [World.cell?, hz], by simp [World.cell?, hz], by simp [World.frozen?, hz], by simp [World.frozen?, hz]⟩
            have hne : j ≠ wr.heap.size := fun e => d3.row.ne_of hj (by rw [e]; exact hz)
            rw [heap_setCell_other _ _ _ _ hne, heap_setCell_other _ _ _ _ hne]
          go_upto_region 12 with fail
          go_cut [11, 12] (fun s11 s12 wx => PushMid w wr R F n3 Y3 code l3 s11 s12 wx)
          case first =>
            go_region_with (first
              | (go_at_call 11; refine (HPsh.out _ HBA.out).mono ?_; rintro e w3 ⟨a3, c3, rfl, b3, d3⟩; have H3 := HMA.out w3 a3 c3 b3 d3; clear b3 d3)
              | (go_at_call 11; refine (HPsh.out _ HBB.out).mono ?_; rintro e w3 ⟨a3, c3, rfl, b3, d3⟩; obtain ⟨H3, p0, p1, p2, p3⟩ := HMB.out w3 a3 c3 b3 d3; clear b3 d3))
            all_goals
              go_wp2_with fail
              go_meet
              exact H3.out
          case rest =>
            obtain ⟨g11, a3, c3, rfl, rfl, hg11, hb11, bx, d3⟩ := hcut
            have hbox3 := (bx.block R hRl).trans HB.out.doc.box
            have x0 : wc.cell? ⟨g11, 0, none⟩ = some (.slice a3 n3 c3) := by simp [World.cell?, hb11]
            have x1 : wc.cell? ⟨g11, 1, none⟩ = some (.string Y3) := by simp [World.cell?, hb11]
            have y0 : wc.cell? ⟨R, 0, none⟩ = some (.slice a l.length c) := by simp [World.cell?, hbox3]
            have y1 : wc.cell? ⟨R, 1, none⟩ = some (.string ⟨T.toArray⟩) := by simp [World.cell?, hbox3]
            have y2 : wc.frozen? ⟨R, 0, none⟩ = false := by simp [World.frozen?, hbox3]
            have y3 : wc.frozen? ⟨R, 1, none⟩ = false := by simp [World.frozen?, hbox3]
            have hR3 : R < wc.heap.size := by have := bx.size; omega
            obtain ⟨W4, hW4⟩ : ∃ W4, W4 = (wc.setCell ⟨R, 0, none⟩ (.slice a3 n3 c3)).setCell ⟨R, 1, none⟩ (.string Y3) := ⟨_, rfl⟩
            have o34 : Only wc W4 (fun j => j = R) := by rw [hW4]; exact (Only.setCell wc ⟨R, 0, none⟩ _ (fun j => j = R) rfl).trans (Only.setCell _ ⟨R, 1, none⟩ _ (fun j => j = R) rfl) (fun _ _ c => c)
            have bR4 : W4.heap[R]? = some (.cells #[.slice a3 n3 c3, .string Y3] 26 (0, 0)) := by rw [hW4]; exact heap_setCell_same _ _ _ _ _ _ (heap_setCell_same _ _ _ _ _ _ hbox3)
            have hO4 : Only wr W4 (fun j => j = R) := (only_of_below bx (fun j => j = R)).trans o34 (fun _ _ c => c)
            have hbb : W4.heap[b]? = wr.heap[b]? := hO4.block b hbl (by have := HB.out.hR; omega)
            have hcs : ∀ k, W4.cell? ⟨b, k, none⟩ = wr.cell? ⟨b, k, none⟩ := fun k => by simp only [World.cell?, hbb]
            have u0 := (hcs _).trans c0
            have u1 := (hcs _).trans c1
            have HO34 := Lib.hid o34
            have HO4 := Lib.hid hO4
            have HR4 := Lib.hid bR4
            have HBX := Lib.hid bx
            have HD3 := Lib.hid d3
            clear hbox3 o34 bR4 hbb hcs hO4 bx d3 hb11
            go_upto_region 14 with fail
            try rw [← hW4]
            clear hW4 x0 x1 y0 y1 y2 y3
            go_wp2_with fail
            refine (HBp.out W4 HO4.out).mono ?_
            rintro e w5 ⟨rfl, hQ5, o5⟩
            have hb5 := to_below HB.out.hR (fun k hk => (HB.out.book.fb k hk).1) Hb2.out HO4.out o5
            have HEr : Hid (Calls Tryd.prog 10 #[errV 64 code, .int .i64 code] w5 fun e w' => e = .returned (.bool true) ∧ Below w5.heap.size w5 w') := Lib.hid ((Error_any code code w5 (HG.out.to hb5)).mono fun e w' h => ⟨by rw [h.1]; simp, h.2⟩)
            have HQ5 := Lib.hid hQ5
            have HO5 := Lib.hid o5
            clear hQ5 o5 hb5
            go_wp2_with fail
            refine HEr.out.mono ?_
            rintro e w7 ⟨rfl, b7⟩
            have hfin : PlaysRel w S R (i + 1) w7 := by
              refine plays_next (l' := l3) (T' := T3) hRl HB.out.hR (fun j hj => ⟨(HB.out.book.fb j hj).1, (HB.out.book.fb j hj).2, (HB.out.sep j hj).1⟩) Hb2.out HBX.out HO34.out (by rw [← HN3.out, ← HY3.out]; exact HR4.out) HQ5.out HO5.out b7 HD3.out.row HD3.out.nil HD3.out.sep HTwo.out many3 n0 n1 nT
            have HFin := Lib.hid hfin
            clear hfin b7
            go_wp2_with fail
            go_meet
            exact ⟨rfl, HFin.out⟩
      case rest =>
        obtain ⟨rfl, hrel2⟩ := hcut
        obtain ⟨n, c6, a6, Y, hn60, hc6, hMany, hText⟩ := weigh w S R (i + 1) wc hrel2
        obtain ⟨k0, k1⟩ := hc6 wc (Only.refl _ _)
        have HMany := Lib.hid hMany
        have HText := Lib.hid hText
        have HO6 := Lib.hid ((Only.refl wc (fun _ => False)).drewN 1)
        have HRel2 := Lib.hid hrel2
        clear hc6 hMany hText hrel2
        go_upto_region 16 with fail
        go_region_with (first
          | (go_at_call 13; refine (HMany.out _ HO6.out).mono ?_; rintro e w6 ⟨rfl, rfl⟩)
          | (go_at_call 14; refine (HText.out _ HO6.out).mono ?_; rintro e w6 ⟨rfl, hr6, k6, k7⟩; have HR6 := Lib.hid hr6; clear hr6))
        all_goals
          go_wp2_with fail
          go_roundw
          case rel => exact ⟨i + 1, by first | rfl | go_num, by omega, HR6.out⟩
          case measure => simp only [intOf]; omega
    · have hg3 : (decide ((i : Int) < (steps.length : Int)) && decide ((i : Int) < 140)) = false := by
        rw [Bool.and_eq_false_iff, decide_eq_false_iff_not, decide_eq_false_iff_not]; omega
      obtain ⟨F, l, q, seq, T, a, c, hB, hs0, hs1, hTl2, hb2⟩ := HRel.out
      have Hb2 := Lib.hid hb2
      clear hB hb2
      rcases Nat.lt_or_ge i steps.length with h1 | h1
      · obtain rfl : i = 140 := by omega
        go_wp2
        go_ret
        exact ⟨rfl, Hb2.out⟩
      · have h1d : decide ((i : Int) < (steps.length : Int)) = false := decide_eq_false (by omega)
        have h1e : decide (i < steps.length) = false := decide_eq_false (by omega)
        go_wp2
        go_ret
        exact ⟨rfl, Hb2.out⟩
end Go.Proofs.YtalnepcbaegaeaaDoor
