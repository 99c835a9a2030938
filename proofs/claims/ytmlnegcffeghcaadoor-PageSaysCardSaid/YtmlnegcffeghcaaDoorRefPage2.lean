/- WALKS: the document's Lru. -/
import Derived.Test.YtmlnegcffeghcaaDoorRefPagePlain
import Derived.Test.YtmlnegcffeghcaaDoorPagePlay
namespace Go.Proofs.YtmlnegcffeghcaaDoor
open Go Go.RowKit PagePlain

/-- a row of bools of the call's own -/
def BOwn (w : World) (B : Nat) (a : Option Addr) (cap : Nat) (bs : List Bool) : Prop := w.ownsRow B 4 1 (.slice a bs.length cap) bs.length (bs.map Value.bool)
theorem BOwn.nil (w : World) (B : Nat) : BOwn w B none 0 [] := World.ownsRow_nil _ _ _ _
theorem BOwn.lt {w : World} {B : Nat} {a : Option Addr} {cap : Nat} {bs : List Bool} (h : BOwn w B a cap bs) : ∀ k, (Value.slice a bs.length cap).ownBlock = some k → B ≤ k ∧ k < w.heap.size := World.ownsRow.lt h
theorem BOwn.of {w : World} {B : Nat} {v : Value} {n : Nat} {bs : List Bool} (h : w.ownsRow B 4 1 v n (bs.map Value.bool)) : ∃ a cap, v = .slice a bs.length cap ∧ BOwn w B a cap bs := by
  have hn : n = bs.length := by simpa using h.1.symm
  subst hn
  rcases h.2 with ⟨rfl, h0⟩ | ⟨g, cap, cur, rfl, _⟩
  · exact ⟨none, 0, by rw [h0], by unfold BOwn; rw [h0] at h ⊢; exact h⟩
  · exact ⟨_, _, rfl, h⟩
theorem BOwn.same {w w' : World} {B : Nat} {a : Option Addr} {cap : Nat} {bs : List Bool} (h : BOwn w B a cap bs) (hw : ∀ k, (Value.slice a bs.length cap).ownBlock = some k → w'.heap[k]? = w.heap[k]?) : BOwn w' B a cap bs := by
  refine ⟨h.1, ?_⟩
  rcases h.2 with h2 | ⟨g, cap', cur, h', hb, hg, hr⟩
  · exact .inl h2
  · refine .inr ⟨g, cap', cur, h', hb, ?_, hr⟩
    rw [hw g (by rw [h']; rfl)]; exact hg
theorem BOwn.below {w w' : World} {B : Nat} {a : Option Addr} {cap : Nat} {bs : List Bool} (h : BOwn w B a cap bs) (hb : Below w.heap.size w w') : BOwn w' B a cap bs := h.same fun k hk => hb.block k (h.lt k hk).2
theorem BOwn.drewN {w : World} {B : Nat} {a : Option Addr} {cap : Nat} {bs : List Bool} (h : BOwn w B a cap bs) (n : Nat) : BOwn (w.drewN n) B a cap bs := h
theorem BOwn.bls {w : World} {B : Nat} {a : Option Addr} {cap : Nat} {bs : List Bool} (h : BOwn w B a cap bs) : Bls w a bs := by
  rcases h.2 with ⟨h', hz⟩ | ⟨g, cap', cur, h', hb, hg, hc, hm, hs, ht⟩
  · exact .inl (List.eq_nil_of_length_eq_zero hz)
  · simp only [Value.slice.injEq, true_and] at h'
    obtain ⟨rfl, rfl⟩ := h'
    refine .inr ⟨g, 0, rfl, fun i hi => ?_⟩
    rw [Nat.zero_add, cell_of_row w g i cur 4 (0, 0) hg]
    have : (cur.toList.take (bs.length * 1))[i]? = (bs.map Value.bool)[i]? := by rw [ht]
    rw [List.getElem?_take_of_lt (by omega)] at this
    rw [← Array.getElem?_toList, this, List.getElem?_map, List.getElem?_eq_getElem hi, List.getD_eq_getElem?_getD, List.getElem?_eq_getElem hi]
    rfl
theorem brow_bls {w : World} {g n : Nat} {b : List Bool} (h : BRow w g n b) (hn : b.length = n) : Bls w (some ⟨g, 0, none⟩) b :=
  .inr ⟨g, 0, rfl, fun i hi => by rw [Nat.zero_add]; exact h.cell (by omega)⟩
theorem boolInfo : (Tryd.prog.info? 4).map (fun i => (i.zero, i.size, i.bytes)) = some (some (.bool false), 1, 1) := by kernel_rfl
theorem cell_one_bool (w : World) (v : Bool) (t : TypeId) (g : Nat) (hg : g = w.heap.size) : ∀ j u, [Value.bool v][j]? = some u → (w.alloc (.cells #[.bool v] t)).cell? ((⟨g, 0, none⟩ : Addr).add j) = some u := by
  subst hg
  intro j u h
  rcases j with _ | j
  · simp only [List.getElem?_cons_zero, Option.some.injEq] at h
    subst h
    have e : (⟨w.heap.size, 0, none⟩ : Addr).add 0 = ⟨w.heap.size, 0, none⟩ := by unfold Addr.add; split <;> simp_all
    rw [e]; simp
  · simp at h
theorem bool_post (bs : List Bool) (B : Nat) (p : Bool) (az : Option Addr) (capz : Nat) (wr : World) (hB : B ≤ wr.heap.size) (ho : BOwn wr B az capz bs)
    (v2 : Value) (w4 : World) (own2 : w4.ownsRow B 4 1 v2 (bs.length + 1) (bs.map Value.bool ++ [.bool p])) (gr2 : (wr.alloc (.cells #[.bool p] 4)).grownBy w4 (Value.slice az bs.length capz).ownBlock) :
    ∃ a3 c3, v2 = .slice a3 (bs ++ [p]).length c3 ∧ BOwn w4 B a3 c3 (bs ++ [p]) ∧ Below B wr w4 := by
  have e : (bs ++ [p]).map Value.bool = bs.map Value.bool ++ [.bool p] := by rw [List.map_append]; rfl
  rw [← e] at own2
  obtain ⟨a2, c2, rfl, O⟩ := BOwn.of own2
  refine ⟨a2, c2, rfl, O, ?_⟩
  refine ((Below.refl B wr).alloc hB _).grown gr2 (by simp; omega) fun j hj => ?_
  exact (ho.lt j hj).1

/-- what the inner loop keeps: the pages between j and k, gathered -/
structure Gath (l : List Int) (k j : Nat) (o : List Int) : Prop where
  le : j ≤ k
  no : ∀ i, j ≤ i → i < k → pg l i ≠ pg l k
  nd : o.Nodup
  mem : ∀ y, y ∈ o ↔ ∃ i, j ≤ i ∧ i < k ∧ pg l i = y
theorem Gath.start (l : List Int) (k : Nat) : Gath l k k [] := ⟨Nat.le_refl _, fun i h1 h2 => by omega, List.nodup_nil, fun y => ⟨fun h => by simp at h, fun ⟨i, h1, h2, _⟩ => by omega⟩⟩
theorem Gath.have {l : List Int} {k j : Nat} {o : List Int} (h : Gath l k (j + 1) o) (hne : pg l j ≠ pg l k) (hm : pg l j ∈ o) : Gath l k j o := by
  refine ⟨by have := h.le; omega, fun i h1 h2 => ?_, h.nd, fun y => ?_⟩
  · rcases Nat.lt_or_ge j i with c | c
    · exact h.no i (by omega) h2
    · obtain rfl : i = j := by omega
      exact hne
  · rw [h.mem]
    refine ⟨fun ⟨i, h1, h2, e⟩ => ⟨i, by omega, h2, e⟩, fun ⟨i, h1, h2, e⟩ => ?_⟩
    rcases Nat.lt_or_ge j i with c | c
    · exact ⟨i, by omega, h2, e⟩
    · obtain rfl : i = j := by omega
      rw [e] at hm
      exact (h.mem y).1 hm
theorem Gath.add {l : List Int} {k j : Nat} {o : List Int} (h : Gath l k (j + 1) o) (hne : pg l j ≠ pg l k) (hm : pg l j ∉ o) : Gath l k j (o ++ [pg l j]) := by
  refine ⟨by have := h.le; omega, fun i h1 h2 => ?_, ?_, fun y => ?_⟩
  · rcases Nat.lt_or_ge j i with c | c
    · exact h.no i (by omega) h2
    · obtain rfl : i = j := by omega
      exact hne
  · refine List.nodup_append.2 ⟨h.nd, by simp, fun a ha b hb c => hm ?_⟩
    rw [List.mem_singleton] at hb
    rw [← hb, ← c]; exact ha
  · rw [List.mem_append, List.mem_singleton, h.mem]
    have := h.le
    constructor
    · rintro (⟨i, h1, h2, e⟩ | e)
      · exact ⟨i, by omega, h2, e⟩
      · exact ⟨j, Nat.le_refl _, by omega, e.symm⟩
    · rintro ⟨i, h1, h2, e⟩
      rcases Nat.lt_or_ge j i with c | c
      · exact .inl ⟨i, by omega, h2, e⟩
      · obtain rfl : i = j := by omega
        exact .inr e.symm
theorem Gath.len {l : List Int} {k j : Nat} {o : List Int} (h : Gath l k j o) (hk : k ≤ 60) : o.length ≤ 60 := by
  have := sub_len (a := o) (b := (List.range k).map (pg l)) h.nd (fun y hy => by
    obtain ⟨i, _, h2, e⟩ := (h.mem y).1 hy
    exact List.mem_map.2 ⟨i, List.mem_range.2 h2, e⟩)
  rw [List.length_map, List.length_range] at this
  omega
theorem Gath.never {l : List Int} {k f : Nat} {o : List Int} (h : Gath l k 0 o) : lruMiss f l k = true := by
  unfold lruMiss
  rw [never_La (fun i hi => h.no i (Nat.zero_le _) hi)]; rfl
theorem Gath.found {l : List Int} {k j f : Nat} {o : List Int} (h : Gath l k (j + 1) o) (e : pg l j = pg l k) : lruMiss f l k = decide (f ≤ o.length) := by
  have hle := h.le
  obtain ⟨h1, h2⟩ := since_len (show j < k by omega) e (fun i h1 h2 => h.no i (by omega) h2) h.nd (fun y => by rw [h.mem]; exact ⟨fun ⟨i, a, b, c⟩ => ⟨i, by omega, b, c⟩, fun ⟨i, a, b, c⟩ => ⟨i, by omega, b, c⟩⟩)
  unfold lruMiss
  rw [h2, decide_eq_false (by omega), Bool.false_or]
/-- what is told of the first k asks -/
def lruL (f : Nat) (l : List Int) (k : Nat) : List Bool := (List.range k).map (lruMiss f l)
theorem lruL_length (f : Nat) (l : List Int) (k : Nat) : (lruL f l k).length = k := by simp [lruL]
theorem lruL_succ (f : Nat) (l : List Int) (k : Nat) : lruL f l (k + 1) = lruL f l k ++ [lruMiss f l k] := by simp [lruL, List.range_succ]
def LruPost (f : Nat) (l : List Int) (w : World) (e : Ending) (w' : World) : Prop := ∃ a cap, e = .returned (.slice a l.length cap) ∧ BOwn w' w.heap.size a cap (lruL f l l.length) ∧ Below w.heap.size w w'
/-- between the rounds -/
structure LruIn (f : Nat) (l : List Int) (w : World) (k : Nat) (ao : Option Addr) (co : Nat) (wr : World) : Prop where
  own : BOwn wr w.heap.size ao co (lruL f l k)
  bel : Below w.heap.size w wr
theorem LruIn.to {f : Nat} {l : List Int} {w : World} {k : Nat} {ao : Option Addr} {co : Nat} {wr w' : World} (h : LruIn f l w k ao co wr) (hb : Below wr.heap.size wr w') : LruIn f l w k ao co w' :=
  ⟨h.own.below hb, h.bel.trans (hb.mono h.bel.size)⟩

theorem LruIn.drewN {f : Nat} {l : List Int} {w : World} {k : Nat} {ao : Option Addr} {co : Nat} {wr : World} (h : LruIn f l w k ao co wr) (q : Nat) : LruIn f l w k ao co (wr.drewN q) := ⟨h.own, drewN_below h.bel q⟩
theorem LruIn.row {f : Nat} {l : List Int} {w : World} {k : Nat} {ao : Option Addr} {co : Nat} {wr : World} (h : LruIn f l w k ao co wr) : wr.ownsRow w.heap.size 4 1 (.slice ao k co) k ((lruL f l k).map Value.bool) := by
  have := h.own
  unfold BOwn at this
  rw [lruL_length] at this
  exact this
theorem LruIn.post {f : Nat} {l : List Int} {w : World} {k : Nat} {ao : Option Addr} {co : Nat} {wr : World} (h : LruIn f l w k ao co wr) (b : Bool) (hb : lruMiss f l k = b)
    (v2 : Value) (w4 : World) (own2 : w4.ownsRow w.heap.size 4 1 v2 (k + 1) ((lruL f l k).map Value.bool ++ [.bool b])) (gr2 : (wr.alloc (.cells #[.bool b] 4)).grownBy w4 (Value.slice ao k co).ownBlock) :
    ∃ a3 c3, v2 = .slice a3 (k + 1) c3 ∧ LruIn f l w (k + 1) a3 c3 w4 := by
  obtain ⟨a3, c3, e, h1, h2⟩ := bool_post (lruL f l k) w.heap.size b ao co wr h.bel.size h.own v2 w4 (by rw [lruL_length]; exact own2) (by rw [lruL_length]; exact gr2)
  refine ⟨a3, c3, by rw [e]; simp [lruL_length], ?_, h.bel.trans h2⟩
  rw [lruL_succ, hb]; exact h1
set_option maxRecDepth 100000 in
set_option maxHeartbeats 4000000 in
theorem rlru_any (f : Nat) (l : List Int) (a : Option Addr) (cap : Nat) (w : World) (hx : Ints w a l) (hF : FineP f l) :
    Calls Tryd.prog 8 #[.int .i64 f, .slice a l.length cap] w fun e w' => LruPost f l w e w' := by
  have h60 := hF.short
  obtain ⟨i0, hi, hz0, hz1, hz2⟩ := info_parts intInfo
  obtain ⟨j0, hj, hy0, hy1, hy2⟩ := info_parts boolInfo
  have f1 : f ≤ 8 := by have := hF.r2; omega
  have Hx := Lib.hid hx
  clear hF hx
  go_enter Tryd.func8, Tryd.ntmps8
  go_wp2
  go_loopw [5, 6] (fun out i wr => ∃ (k : Nat) (ao : Option Addr) (co : Nat), i = .int .i64 k ∧ k ≤ l.length ∧ out = .slice ao k co ∧ LruIn f l w k ao co wr) (fun _ i _ => l.length - (intOf i).toNat)
  case atStart => exact ⟨0, none, 0, rfl, Nat.zero_le _, rfl, BOwn.nil _ _, Below.refl _ _⟩
  case round =>
    rename World => wk
    obtain ⟨k, ao, co, rfl, hk, rfl, R⟩ := hrel
    have HR := Lib.hid R
    clear R
    rcases Nat.lt_or_ge k l.length with hlt | hge
    · have hkI : (k : Int) < l.length := by omega
      go_wp2
      go_loopw [7, 8] (fun ot jv wx => ∃ (j : Int) (m : Nat) (o : List Int) (ah : Option Addr) (ch : Nat), jv = .int .i64 j ∧ j = (m : Int) - 1 ∧ ot = .slice ah o.length ch ∧ Gath l k m o ∧ Own wx wk.heap.size 3 ah ch o ∧ Below wk.heap.size wk wx) (fun _ jv _ => (intOf jv + 1).toNat)
      case atStart => exact ⟨_, k, [], none, 0, rfl, rfl, rfl, Gath.start l k, Own.nil _ _ _, Below.refl _ _⟩
      case round =>
        obtain ⟨j, m, o, ah, ch, rfl, hj, rfl, hG, hO, hB⟩ := hrel
        have hol := hG.len (by omega)
        have hmk := hG.le
        have HG := Lib.hid hG
        have HO := Lib.hid hO
        have HB := Lib.hid hB
        clear hG hO hB
        rcases m with _ | m
        · obtain rfl : j = -1 := by omega
          have HN := Lib.hid (HG.out.never (f := f))
          clear hj
          have HR2 := Lib.hid (HR.out.to HB.out)
          have HRW := Lib.hid (fun q => (HR2.out.drewN q).row)
          have HP := Lib.hid (fun q => (HR2.out.drewN q).post true HN.out)
          clear HR
          go_wp2
          go_quiet (fail)
          go_wp2_with (at_builtin; refine wpList_append_own _ rfl _ _ 28 rfl w.heap.size 4 j0 (.bool false) 1 1 Tryd.underlying28 hj hy0 hy1 hy2 rfl (by decide) (.slice ao k co) k ((lruL f l k).map Value.bool) rfl (World.ownsRow.alloc (HRW.out _) _) ⟨_, 0, none⟩ 1 1 [.bool true] rfl rfl (cell_one_bool _ _ _ _ (by simp)) (by simp [Value.oneCell']) (by unfold maxLen; omega) (by omega) (by have := HR2.out.bel.size; simp; omega) ?_; intro v2 w4 own2 gr2 _; obtain ⟨a3, c3, rfl, HO3⟩ := HP.out _ v2 w4 own2 gr2; have HR4 := Lib.hid HO3; clear HO3 own2 gr2 HP HR2)
          go_roundw
          case rel => exact ⟨k + 1, a3, c3, by go_num, by omega, rfl, HR4.out⟩
          case measure => simp only [intOf]; omega
        · obtain rfl : j = (m : Int) := by omega
          clear hj
          have hml : m < l.length := by omega
          obtain ⟨b, off, rfl, hc⟩ := (Hx.out.below (HR.out.bel.trans (HB.out.mono HR.out.bel.size))).open (by omega)
          have cm := hc m hml
          have ck := hc k hlt
          have hmI : (m : Int) < l.length := by omega
          clear hc
          obtain ⟨u, hu⟩ : ∃ u, u = pg l m := ⟨_, rfl⟩
          obtain ⟨v, hv⟩ : ∃ v, v = pg l k := ⟨_, rfl⟩
          rw [show l.getD m 0 = u from hu.symm] at cm
          rw [show l.getD k 0 = v from hv.symm] at ck
          have Hu := Lib.hid hu
          have Hv := Lib.hid hv
          clear hu hv
          by_cases e : u = v
          · have eB : (u != v) = false := by rw [e]; simp
            have hN := HG.out.found (f := f) (by rw [← Hu.out, ← Hv.out]; exact e)
            have E := Lib.hid e
            clear e
            rcases Nat.lt_or_ge o.length f with hof | hof
            · rw [decide_eq_false (by omega)] at hN
              have HN := Lib.hid hN
              have hoI : decide (f ≤ o.length) = false := decide_eq_false (by omega)
              have hm0 : decide ((m : Int) < 0) = false := decide_eq_false (by omega)
              clear hN
              have HR2 := Lib.hid (HR.out.to HB.out)
              have HRW := Lib.hid (fun q => (HR2.out.drewN q).row)
              have HP := Lib.hid (fun q => (HR2.out.drewN q).post false HN.out)
              clear HR
              go_wp2
              go_quiet (fail)
              go_wp2_with (at_builtin; refine wpList_append_own _ rfl _ _ 28 rfl w.heap.size 4 j0 (.bool false) 1 1 Tryd.underlying28 hj hy0 hy1 hy2 rfl (by decide) (.slice ao k co) k ((lruL f l k).map Value.bool) rfl (World.ownsRow.alloc (HRW.out _) _) ⟨_, 0, none⟩ 1 1 [.bool false] rfl rfl (cell_one_bool _ _ _ _ (by simp)) (by simp [Value.oneCell']) (by unfold maxLen; omega) (by omega) (by have := HR2.out.bel.size; simp; omega) ?_; intro v2 w4 own2 gr2 _; obtain ⟨a3, c3, rfl, HO3⟩ := HP.out _ v2 w4 own2 gr2; have HR4 := Lib.hid HO3; clear HO3 own2 gr2 HP HR2)
              go_roundw
              case rel => exact ⟨k + 1, a3, c3, by go_num, by omega, rfl, HR4.out⟩
              case measure => simp only [intOf]; omega
            · rw [decide_eq_true hof] at hN
              have HN := Lib.hid hN
              have hoI : decide (f ≤ o.length) = true := decide_eq_true (by omega)
              have hm0 : decide ((m : Int) < 0) = false := decide_eq_false (by omega)
              clear hN
              have HR2 := Lib.hid (HR.out.to HB.out)
              have HRW := Lib.hid (fun q => (HR2.out.drewN q).row)
              have HP := Lib.hid (fun q => (HR2.out.drewN q).post true HN.out)
              clear HR
              go_wp2
              go_quiet (fail)
              go_wp2_with (at_builtin; refine wpList_append_own _ rfl _ _ 28 rfl w.heap.size 4 j0 (.bool false) 1 1 Tryd.underlying28 hj hy0 hy1 hy2 rfl (by decide) (.slice ao k co) k ((lruL f l k).map Value.bool) rfl (World.ownsRow.alloc (HRW.out _) _) ⟨_, 0, none⟩ 1 1 [.bool true] rfl rfl (cell_one_bool _ _ _ _ (by simp)) (by simp [Value.oneCell']) (by unfold maxLen; omega) (by omega) (by have := HR2.out.bel.size; simp; omega) ?_; intro v2 w4 own2 gr2 _; obtain ⟨a3, c3, rfl, HO3⟩ := HP.out _ v2 w4 own2 gr2; have HR4 := Lib.hid HO3; clear HO3 own2 gr2 HP HR2)
              go_roundw
              case rel => exact ⟨k + 1, a3, c3, by go_num, by omega, rfl, HR4.out⟩
              case measure => simp only [intOf]; omega
          · have eB : (u != v) = true := by rw [bne_iff_ne]; exact e
            have E := Lib.hid (show pg l m ≠ pg l k by rw [← Hu.out, ← Hv.out]; exact e)
            clear e
            by_cases hin : u ∈ o
            · have hp : ∀ q, Calls Tryd.prog 17 #[.slice ah o.length ch, .int .i64 u] (wr.drewN q) fun e w' => e = .returned (.int .i64 (o.idxOf u : Nat)) ∧ wr.drewN q = w' := fun q => (rpl o u ah ch _ (HO.out.drewN q).ints (by omega)).mono fun e w' ⟨h1, h2⟩ => ⟨by rw [h1]; unfold idxI; rw [if_pos hin], h2⟩
              have HPl := Lib.hid hp
              have Hin := Lib.hid hin
              clear hp hin
              generalize o.idxOf u = n at HPl
              have hn0 : decide ((n : Int) < 0) = false := decide_eq_false (by omega)
              go_wp2
              go_quiet (fail)
              go_wp2_with fail
              refine (HPl.out _).mono ?_
              rintro e w2 ⟨rfl, rfl⟩
              go_wp2
              go_roundw
              case rel => exact ⟨_, m, o, ah, ch, rfl, rfl, rfl, HG.out.have E.out (by rw [← Hu.out]; exact Hin.out), HO.out.drewN _, drewN_below HB.out _⟩
              case measure => simp only [intOf]; omega
            · have hp : ∀ q, Calls Tryd.prog 17 #[.slice ah o.length ch, .int .i64 u] (wr.drewN q) fun e w' => e = .returned (.int .i64 (-1)) ∧ wr.drewN q = w' := fun q => (rpl o u ah ch _ (HO.out.drewN q).ints (by omega)).mono fun e w' ⟨h1, h2⟩ => ⟨by rw [h1]; unfold idxI; rw [if_neg hin], h2⟩
              have HPl := Lib.hid hp
              have Hin := Lib.hid hin
              clear hp hin
              have hsz := HB.out.size
              have HPo := Lib.hid (fun q => page_post o wk.heap.size u ah ch (wr.drewN q) HB.out.size (HO.out.drewN q))
              have HOw := Lib.hid (fun q => show (wr.drewN q).ownsRow wk.heap.size 3 1 (.slice ah o.length ch) o.length (o.map (Value.int .i64)) from HO.out.drewN q)
              go_wp2
              go_quiet (fail)
              go_wp2_with fail
              refine (HPl.out _).mono ?_
              rintro e w2 ⟨rfl, rfl⟩
              go_wp2_with (at_builtin; refine wpList_append_own _ rfl _ _ 22 rfl wk.heap.size 3 i0 (.int .i64 0) 1 8 Tryd.underlying22 hi hz0 hz1 hz2 rfl (by decide) (.slice ah o.length ch) o.length (o.map (Value.int .i64)) rfl (World.ownsRow.alloc (HOw.out _) _) ⟨_, 0, none⟩ 1 1 [.int .i64 u] rfl rfl (cell_one_newg _ _ _ _ (by simp)) (by simp [Value.oneCell']) (by unfold maxLen; omega) (by omega) (by simp; omega) ?_; intro v2 w4 own2 gr2 _; obtain ⟨a3, c3, rfl, HO3, b4⟩ := HPo.out _ v2 w4 own2 gr2; have HO4 := Lib.hid HO3; have HB4 := Lib.hid b4; clear HO3 b4 own2 gr2 HPo)
              go_roundw
              case rel => exact ⟨_, m, o ++ [u], a3, c3, rfl, rfl, by simp, by have := HG.out.add E.out (by rw [← Hu.out]; exact Hin.out); rw [← Hu.out] at this; exact this, HO4.out, (drewN_below HB.out _).trans HB4.out⟩
              case measure => simp only [intOf]; omega
    · obtain rfl : l.length = k := by omega
      have h3 : decide (l.length < l.length) = false := by simp
      go_wp2
      go_ret
      exact ⟨ao, co, rfl, HR.out.own, HR.out.bel⟩
end Go.Proofs.YtmlnegcffeghcaaDoor
