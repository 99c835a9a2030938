/- WALK: the reference's Sort: each item is put in behind those that are not above it. -/
import Derived.Test.YtienepcknafddaaDoorCxItems
import Derived.Test.YtienepcknafddaaDoorCxPlain
set_option linter.unusedVariables false
set_option linter.unusedSimpArgs false
namespace Go.Proofs.YtienepcknafddaaDoor
open Go Go.RowKit SimPlain HeapPlain SymPlain

/-- the cells of a stretch of a row -/
theorem EtOwn.from {w : World} {B g cap : Nat} {l : List Ev} (h : EtOwn w B (some ⟨g, 0, none⟩) cap l) (n m : Nat) (hnm : n + m ≤ l.length) : ∀ j u, (flat2 ((l.drop n).take m))[j]? = some u → w.cell? ((⟨g, n * 2, none⟩ : Addr).add j) = some u := by
  intro j u hu
  by_cases h0 : 0 < l.length
  · obtain ⟨g', e, _, _, hc⟩ := h.open h0
    obtain rfl : g = g' := by simpa using e
    have hlen : (flat2 ((l.drop n).take m)).length = m * 2 := by rw [flat2_length, List.length_take, List.length_drop]; omega
    have hj : j < m * 2 := by
      rcases Nat.lt_or_ge j (m * 2) with c | c
      · exact c
      · rw [List.getElem?_eq_none (by omega)] at hu; cases hu
    have hi : n + j / 2 < l.length := by omega
    have e1 : (flat2 ((l.drop n).take m))[j / 2 * 2 + j % 2]? = (e2Vals (((l.drop n).take m).getD (j / 2) e0))[j % 2]? := flat2_get _ _ _ (by rw [List.length_take, List.length_drop]; omega) (by omega)
    rw [show j / 2 * 2 + j % 2 = j by omega, hu] at e1
    have e2 : ((l.drop n).take m).getD (j / 2) e0 = l.getD (n + j / 2) e0 := by
      rw [List.getD_eq_getElem?_getD, List.getElem?_take_of_lt (by omega), List.getElem?_drop, ← List.getD_eq_getElem?_getD]
    rw [e2] at e1
    have e3 : (⟨g, n * 2, none⟩ : Addr).add j = ⟨g, n * 2 + j, none⟩ := by unfold Addr.add; split <;> simp_all
    rw [e3]
    obtain ⟨c0, c1⟩ := hc (n + j / 2) hi
    have hj2 : j % 2 = 0 ∨ j % 2 = 1 := by omega
    rcases hj2 with d | d
    · rw [show n * 2 + j = (n + j / 2) * 2 by omega, c0]
      rw [d] at e1
      simpa [e2Vals] using e1.symm
    · rw [show n * 2 + j = (n + j / 2) * 2 + 1 by omega, c1]
      rw [d] at e1
      simpa [e2Vals] using e1.symm
  · have : l = [] := List.eq_nil_of_length_eq_zero (by omega)
    subst this
    simp [flat2] at hu
theorem EtOwn.room {w : World} {B g cap : Nat} {l : List Ev} (h : EtOwn w B (some ⟨g, 0, none⟩) cap l) : l.length ≤ cap ∧ cap ≤ maxLen := by
  rcases h.2 with ⟨h', _⟩ | ⟨g', cap', cur, h', _, _, hc, hm, _⟩
  · simp at h'
  · simp only [Value.slice.injEq, true_and] at h'
    obtain ⟨-, rfl⟩ := h'
    exact ⟨hc, hm⟩
/-- how far it has come -/
structure RInv (w : World) (l : List Ev) (wr : World) (k : Nat) (D : List Ev) (aD : Option Addr) (cD : Nat) : Prop where
  le : k ≤ l.length
  perm : D.Perm (l.take k)
  srt : D.Pairwise Lt
  own : EtOwn wr w.heap.size aD cD D
  below : Below w.heap.size w wr
  len : D.length = k
  z : k = 0 → aD = none ∧ cD = 0
theorem drewN_two (w : World) (a b : Nat) : (w.drewN a).drewN b = w.drewN (a + b) := by
  show ({ w with drawn := w.drawn + a + b } : World) = { w with drawn := w.drawn + (a + b) }
  rw [Nat.add_assoc]
theorem EtOwn.some_of {w : World} {B cap : Nat} {a : Option Addr} {l : List Ev} (h : EtOwn w B a cap l) (h0 : 0 < l.length) : ∃ g, a = some ⟨g, 0, none⟩ ∧ g < w.heap.size := by
  obtain ⟨g, e, _, h1, _⟩ := h.open h0
  exact ⟨g, e, h1⟩
theorem own_from0 {w : World} {B g cap : Nat} {l : List Ev} (h : EtOwn w B (some ⟨g, 0, none⟩) cap l) (j : Nat) (hj : j ≤ l.length) : ∀ i u, (flat2 (l.take j))[i]? = some u → w.cell? ((⟨g, 0, none⟩ : Addr).add i) = some u := by
  have := h.from 0 j (by omega)
  rwa [List.drop_zero, Nat.zero_mul] at this
theorem own_from1 {w : World} {B g cap : Nat} {l : List Ev} (h : EtOwn w B (some ⟨g, 0, none⟩) cap l) (j : Nat) (hj : j ≤ l.length) : ∀ i u, (flat2 (l.drop j))[i]? = some u → w.cell? ((⟨g, j * 2, none⟩ : Addr).add i) = some u := by
  have := h.from j (l.length - j) (by omega)
  rwa [List.take_of_length_le (by rw [List.length_drop]; exact Nat.le_refl _)] at this
theorem news_below {wr w2 : World} (hb : Below wr.heap.size wr w2) {g o : Nat} (hg : g < wr.heap.size) {news : List Value} (F : ∀ i u, news[i]? = some u → wr.cell? ((⟨g, o, none⟩ : Addr).add i) = some u) : ∀ i u, news[i]? = some u → w2.cell? ((⟨g, o, none⟩ : Addr).add i) = some u := by
  intro i u hu
  have h := F i u hu
  have e : (⟨g, o, none⟩ : Addr).add i = ⟨g, o + i, none⟩ := by unfold Addr.add; split <;> simp_all
  rw [e] at h ⊢
  exact (hb.cell (p := ⟨g, o + i, none⟩) hg).trans h
theorem below_grown1 {w w1 : World} {q : Nat} (g : (w.drewN q).grownBy w1 (Value.slice none 0 0).ownBlock) : Below w.heap.size w w1 :=
  ⟨g.os, g.tape, g.output, g.size, fun k hk => g.block k hk (by simp [Value.ownBlock])⟩
theorem below_grown0 {w w1 : World} {q : Nat} {o : Obj} (g : ((w.drewN q).alloc o).grownBy w1 (Value.slice none 0 0).ownBlock) : Below w.heap.size w w1 :=
  (Below.alloc (Below.refl w.heap.size w) (Nat.le_refl _) o).trans ⟨g.os, g.tape, g.output, g.size, fun k hk => g.block k (by show k < ((w.drewN q).alloc o).heap.size; simp; omega) (by simp [Value.ownBlock])⟩
theorem below_grown2 {wr w1 w2 : World} {o : Obj} {v1 : Value} {n : Nat} {xs : List Value} (hb : Below wr.heap.size wr w1) (ho : w1.ownsRow wr.heap.size 34 2 v1 n xs) (g : (w1.alloc o).grownBy w2 v1.ownBlock) : Below wr.heap.size wr w2 :=
  (hb.alloc hb.size o).trans (grown_below g (by have := hb.size; simp; omega) fun j hj => (World.ownsRow.lt ho j hj).1)
theorem below_grown3 {wr w1 w2 : World} {v1 : Value} {n : Nat} {xs : List Value} (hb : Below wr.heap.size wr w1) (ho : w1.ownsRow wr.heap.size 34 2 v1 n xs) (g : w1.grownBy w2 v1.ownBlock) : Below wr.heap.size wr w2 :=
  hb.trans (grown_below g hb.size fun j hj => (World.ownsRow.lt ho j hj).1)
/-- what one round leaves: behind three appends -/
theorem round_post {w wr w3 : World} {l D : List Ev} {k j cD : Nat} {aD : Option Addr} {v3 : Value} {x : Ev} {news : List Value} (hV : RInv w l wr k D aD cD) (hbef : l.Pairwise Bef) (hk : k < l.length) (hx : l.getD k e0 = x) (hj : j ≤ D.length) (h1 : ∀ i, i < j → (D.getD i e0).t ≤ x.t) (h2 : j < D.length → x.t < (D.getD j e0).t)
    (hb : Below wr.heap.size wr w3) (m : Nat) (hm : m = D.length - j) (hn : news = flat2 (D.drop j)) (own : w3.ownsRow wr.heap.size 34 2 v3 (0 + j + 1 + m) ([] ++ flat2 (D.take j) ++ [.int .i64 x.t, .int .i64 x.id] ++ news)) :
    ∃ D' aD' cD', v3 = .slice aD' (k + 1) cD' ∧ RInv w l w3 (k + 1) D' aD' cD' := by
  subst hm hn hx
  have e : [] ++ flat2 (D.take j) ++ [.int .i64 (l.getD k e0).t, .int .i64 (l.getD k e0).id] ++ flat2 (D.drop j) = flat2 (D.take j ++ l.getD k e0 :: D.drop j) := by
    rw [flat2_append]
    simp [flat2, e2Vals]
  rw [e] at own
  obtain ⟨a', c', rfl, hE⟩ := EtOwn.of own
  have hlen : (D.take j ++ l.getD k e0 :: D.drop j).length = k + 1 := by
    have := hV.len
    simp only [List.length_append, List.length_take, List.length_cons, List.length_drop]
    omega
  exact ⟨_, a', c', by rw [hlen], hk, ins_perm j hk hV.perm, ins_sorted hk hbef hV.perm hV.srt hj h1 h2, hE.mono hV.below.size, hV.below.trans (hb.mono hV.below.size), hlen, fun h => by omega⟩
set_option maxRecDepth 100000 in
set_option maxHeartbeats 8000000 in
theorem rsort_any (l : List Ev) (a : Option Addr) (cap : Nat) (w : World) (hx : EvA w a l) (h60 : l.length ≤ 60) (hbef : l.Pairwise Bef) :
    Calls Tryd.prog 5 #[.slice a l.length cap] w fun e w' => ∃ S a' c', e = .returned (.slice a' S.length c') ∧ S.Perm l ∧ S.Pairwise Lt ∧ EtOwn w' w.heap.size a' c' S ∧ Below w.heap.size w w' := by
  have h60' : (l.length : Int) ≤ 60 := by omega
  have HX := Lib.hid hx
  have HBef := Lib.hid hbef
  have H0 : Hid (RInv w l w 0 [] none 0) := Lib.hid ⟨Nat.zero_le _, by simp, .nil, EtOwn.nil _ _, Below.refl _ _, rfl, fun _ => ⟨rfl, rfl⟩⟩
  obtain ⟨i0, hi0, hz0, hz1, hz2⟩ := info_parts etInfo
  clear hx hbef
  go_enter Tryd.func5, Tryd.ntmps5
  go_wp2
  go_loopw [3, 4] (fun o i wr => ∃ (k : Nat) (D : List Ev) (aD : Option Addr) (cD : Nat), i = .int .i64 k ∧ o = .slice aD k cD ∧ RInv w l wr k D aD cD) (fun _ i _ => l.length - (intOf i).toNat)
  case atStart => exact ⟨0, [], none, 0, rfl, rfl, H0.out⟩
  case round =>
    obtain ⟨k, D, aD, cD, rfl, rfl, hV⟩ := hrel
    rename World => wr
    have HV := Lib.hid hV
    have hkl := hV.le
    have hkI : (k : Int) ≤ 60 := by omega
    have hwr : w.heap.size ≤ wr.heap.size := hV.below.size
    rcases Nat.lt_or_ge k l.length with hlt | hge
    · obtain ⟨b, off, rfl, hbl, hc⟩ := HX.out.open (by omega)
      obtain ⟨c0, c1⟩ := hc k hlt
      have c0 := (hV.below.cell (p := ⟨b, off + k * 2, none⟩) hbl).trans c0
      have c1 := (hV.below.cell (p := ⟨b, off + k * 2 + 1, none⟩) hbl).trans c1
      have hltI : (k : Int) < (l.length : Int) := by omega
      have hbw : b < wr.heap.size := by omega
      obtain ⟨x, hgx⟩ : ∃ x, l.getD k e0 = x := ⟨_, rfl⟩
      rw [hgx] at c0 c1
      have HGX := Lib.hid hgx
      have HLT := Lib.hid hlt
      clear hc hV hgx
      obtain ⟨xt, hxt⟩ : ∃ z, z = x.t := ⟨_, rfl⟩
      obtain ⟨xi, hxi⟩ : ∃ z, z = x.id := ⟨_, rfl⟩
      rw [← hxt] at c0
      rw [← hxi] at c1
      have HXT := Lib.hid hxt
      have HXI := Lib.hid hxi
      clear hxt hxi
      go_wp2
      go_loopw [5] (fun t5 w1 => ∃ j q : Nat, t5 = .int .i64 j ∧ j ≤ k ∧ (∀ i, i < j → (D.getD i e0).t ≤ xt) ∧ w1 = wr.drewN q) (fun t5 _ => k - (intOf t5).toNat)
      case atStart => exact ⟨0, 0, rfl, Nat.zero_le _, fun i hi => by omega, rfl⟩
      case round =>
        obtain ⟨j, q, rfl, hjk, hall, rfl⟩ := hrel
        have HALL := Lib.hid hall
        have hjI : (j : Int) ≤ 60 := by omega
        clear hall
        -- WAYS
        rcases Nat.lt_or_ge j k with hjk2 | hjk2
        · obtain ⟨g, rfl, _, hgw, hcD⟩ := HV.out.own.open (by have := HV.out.len; omega)
          have y0 := (hcD j (by have := HV.out.len; omega)).1
          obtain ⟨hroom, hcm⟩ := HV.out.own.room
          have hkc : k ≤ cD := by have := HV.out.len; omega
          obtain ⟨yt, hyt⟩ : ∃ z, z = (D.getD j e0).t := ⟨_, rfl⟩
          rw [← hyt] at y0
          have HYT := Lib.hid hyt
          clear hcD hroom hyt
          have hjI2 : (j : Int) < (k : Int) := by omega
          by_cases hle : yt ≤ xt
          · have HLE := Lib.hid hle
            go_wp2_with fail
            go_quiet (fail)
            go_wp2
            go_roundw
            case rel =>
              refine ⟨j + 1, q + nq, by go_num, by omega, fun i hi => ?_, by first | rfl | exact drewN_two _ _ _⟩
              rcases Nat.lt_or_ge i j with h | h
              · exact HALL.out i h
              · obtain rfl : i = j := by omega
                rw [← HYT.out]; exact HLE.out
            case measure => simp only [intOf]; omega
          · have HSTOP : Hid (j < D.length → xt < (D.getD j e0).t) := Lib.hid (fun _ => by rw [← HYT.out]; omega)
            have hle2 : decide (yt ≤ xt) = false := decide_eq_false hle
            have hjc : j < cD := by omega
            have HF1 := Lib.hid (own_from0 HV.out.own j (by have := HV.out.len; omega))
            have HL1 := Lib.hid (show (flat2 (D.take j)).length = j * 2 by rw [flat2_length, List.length_take, Nat.min_eq_left (by have := HV.out.len; omega)])
            have HF2 := Lib.hid (own_from1 HV.out.own j (by have := HV.out.len; omega))
            have HL2 := Lib.hid (show (flat2 (D.drop j)).length = (k - j) * 2 by rw [flat2_length, List.length_drop, HV.out.len])
            have HPost : Hid (∀ (w3 : World) (v3 : Value), Below wr.heap.size wr w3 → w3.ownsRow wr.heap.size 34 2 v3 (0 + j + 1 + (k - j)) ([] ++ flat2 (D.take j) ++ [.int .i64 xt, .int .i64 xi] ++ flat2 (D.drop j)) → ∃ D' aD' cD', v3 = .slice aD' (k + 1) cD' ∧ RInv w l w3 (k + 1) D' aD' cD') := Lib.hid (fun w3 v3 hb ho => round_post (j := j) HV.out HBef.out HLT.out HGX.out (by have := HV.out.len; omega) (by rw [← HXT.out]; exact HALL.out) (by rw [← HXT.out]; exact HSTOP.out) hb _ (by rw [HV.out.len]) rfl (by rw [← HXT.out, ← HXI.out]; exact ho))
            go_wp2_with fail
            go_quiet (fail)
            go_wp2_with (first | (at_builtin; refine wpList_append_own _ rfl (.tmp 32) (.tmp 35) 22 rfl wr.heap.size 34 i0 (.agg #[.int .i64 0, .int .i64 0]) 2 16 Tryd.underlying22 hi0 hz0 hz1 hz2 rfl (by decide) (.slice none 0 0) 0 [] rfl (World.ownsRow_nil _ _ _ _) ⟨g, 0, none⟩ j cD (flat2 (D.take j)) rfl HL1.out HF1.out (one_cells2 _) (by unfold maxLen; omega) (by omega) (Nat.le_refl _) ?_; intro v1 w1 o1 g1 _; have HO1 := Lib.hid o1; have HB1 := Lib.hid (below_grown1 (w := wr) g1); have d0 := (HB1.out.cell (p := ⟨b, off + k * 2, none⟩) hbw).trans c0; have d1 := (HB1.out.cell (p := ⟨b, off + k * 2 + 1, none⟩) hbw).trans c1; clear o1 g1) | (at_builtin; refine wpList_append_own _ rfl (.tmp 37) (.tmp 42) 22 rfl wr.heap.size 34 i0 (.agg #[.int .i64 0, .int .i64 0]) 2 16 Tryd.underlying22 hi0 hz0 hz1 hz2 rfl (by decide) v1 (0 + j) ([] ++ flat2 (D.take j)) rfl (World.ownsRow.alloc HO1.out _) ⟨w1.heap.size, 0, none⟩ 1 1 [.int .i64 xt, .int .i64 xi] rfl rfl (World.news_of_block (cs := #[.int .i64 xt, .int .i64 xi]) (t := 34) (fr := (0, 0)) (heap_alloc_new _ _)) (by simp [Value.oneCell']) (by unfold maxLen; omega) (by omega) (by have := HB1.out.size; simp; omega) ?_; intro v2 w2 o2 g2 _; have HO2 := Lib.hid o2; have HB2 := Lib.hid (below_grown2 HB1.out HO1.out g2); clear o2 g2) | (at_builtin; refine wpList_append_own _ rfl (.tmp 44) (.tmp 47) 22 rfl wr.heap.size 34 i0 (.agg #[.int .i64 0, .int .i64 0]) 2 16 Tryd.underlying22 hi0 hz0 hz1 hz2 rfl (by decide) v2 (0 + j + 1) ([] ++ flat2 (D.take j) ++ [.int .i64 xt, .int .i64 xi]) rfl HO2.out ⟨g, j * 2, none⟩ (k - j) _ (flat2 (D.drop j)) rfl HL2.out (news_below HB2.out hgw HF2.out) (one_cells2 _) (by unfold maxLen; omega) (by omega) HB2.out.size ?_; intro v3 w3 o3 g3 _; have HP3 := Lib.hid (HPost.out w3 v3 (below_grown3 HB2.out HO2.out g3) o3); clear o3 g3))
            go_roundw
            case rel =>
              obtain ⟨D', a', c', e', hR⟩ := HP3.out
              exact ⟨k + 1, D', a', c', by go_num, e', hR⟩
            case measure => simp only [intOf]; have := HLT.out; omega
        · obtain rfl : j = k := by omega
          have HSTOP : Hid (j < D.length → xt < (D.getD j e0).t) := Lib.hid (fun h => by have := HV.out.len; omega)
          have hjj : decide ((j : Int) < (j : Int)) = false := by simp
          rcases Nat.eq_zero_or_pos j with hz | hz
          · subst hz
            obtain ⟨rfl, rfl⟩ := HV.out.z rfl
            simp only [Nat.zero_mul, Nat.add_zero] at c0 c1
            obtain rfl : D = [] := List.eq_nil_of_length_eq_zero HV.out.len
            have HPost : Hid (∀ (w3 : World) (v3 : Value), Below wr.heap.size wr w3 → w3.ownsRow wr.heap.size 34 2 v3 (0 + 1) ([] ++ [.int .i64 xt, .int .i64 xi]) → ∃ D' aD' cD', v3 = .slice aD' 1 cD' ∧ RInv w l w3 1 D' aD' cD') := Lib.hid (fun w3 v3 hb ho => round_post (j := 0) HV.out HBef.out HLT.out HGX.out (Nat.le_refl _) (fun i hi => absurd hi (Nat.not_lt_zero _)) (fun h => absurd h (Nat.lt_irrefl _)) hb 0 rfl rfl (by rw [← HXT.out, ← HXI.out]; exact ho))
            go_wp2_with fail
            go_quiet (fail)
            go_wp2_with (first | (at_builtin; refine wpList_append_own_none rfl (.tmp 32) (.tmp 35) 22 rfl wr.heap.size 34 i0 2 Tryd.underlying22 hi0 (.slice none 0 0) 0 [] rfl (World.ownsRow_nil _ _ _ _) rfl ?_) | (at_builtin; refine wpList_append_own _ rfl (.tmp 37) (.tmp 42) 22 rfl wr.heap.size 34 i0 (.agg #[.int .i64 0, .int .i64 0]) 2 16 Tryd.underlying22 hi0 hz0 hz1 hz2 rfl (by decide) (.slice none 0 0) 0 [] rfl (World.ownsRow_nil _ _ _ _) ⟨_, 0, none⟩ 1 1 [.int .i64 xt, .int .i64 xi] rfl rfl (World.news_of_block (cs := #[.int .i64 xt, .int .i64 xi]) (t := 34) (fr := (0, 0)) (heap_alloc_new _ _)) (by simp [Value.oneCell']) (by unfold maxLen; omega) (by omega) (by simp) ?_; intro v2 w2 o2 g2 _; have HO2 := Lib.hid o2; have HP3 := Lib.hid (HPost.out w2 v2 (below_grown0 g2) o2); clear o2 g2) | (at_builtin; refine wpList_append_own_none rfl (.tmp 44) (.tmp 47) 22 rfl wr.heap.size 34 i0 2 Tryd.underlying22 hi0 v2 (0 + 1) ([] ++ [.int .i64 xt, .int .i64 xi]) rfl HO2.out rfl ?_))
            go_roundw
            case rel =>
              obtain ⟨D', a', c', e', hR⟩ := HP3.out
              exact ⟨1, D', a', c', by go_num, e', hR⟩
            case measure => simp only [intOf]; have := HLT.out; omega
          · obtain ⟨g, rfl, _, hgw, _⟩ := HV.out.own.open (by have := HV.out.len; omega)
            obtain ⟨hroom, hcm⟩ := HV.out.own.room
            have hkc : j ≤ cD := by have := HV.out.len; omega
            clear hroom
            rcases Nat.lt_or_ge j cD with hjc | hjc
            · have Hz0 := Lib.hid (Nat.sub_self j)
              have Hd0 : Hid (flat2 (D.drop j) = []) := Lib.hid (by rw [List.drop_of_length_le (by rw [HV.out.len]; exact Nat.le_refl _)]; rfl)
              have HF1 := Lib.hid (own_from0 HV.out.own j (by have := HV.out.len; omega))
              have HL1 := Lib.hid (show (flat2 (D.take j)).length = j * 2 by rw [flat2_length, List.length_take, Nat.min_eq_left (by have := HV.out.len; omega)])
              have HPost : Hid (∀ (w3 : World) (v3 : Value), Below wr.heap.size wr w3 → w3.ownsRow wr.heap.size 34 2 v3 (0 + j + 1 + (j - j)) ([] ++ flat2 (D.take j) ++ [.int .i64 xt, .int .i64 xi] ++ flat2 (D.drop j)) → ∃ D' aD' cD', v3 = .slice aD' (j + 1) cD' ∧ RInv w l w3 (j + 1) D' aD' cD') := Lib.hid (fun w3 v3 hb ho => round_post (j := j) HV.out HBef.out HLT.out HGX.out (by have := HV.out.len; omega) (by rw [← HXT.out]; exact HALL.out) (by rw [← HXT.out]; exact HSTOP.out) hb _ (by rw [HV.out.len]) rfl (by rw [← HXT.out, ← HXI.out]; exact ho))
              go_wp2_with fail
              go_quiet (fail)
              go_wp2_with (first | (at_builtin; refine wpList_append_own _ rfl (.tmp 32) (.tmp 35) 22 rfl wr.heap.size 34 i0 (.agg #[.int .i64 0, .int .i64 0]) 2 16 Tryd.underlying22 hi0 hz0 hz1 hz2 rfl (by decide) (.slice none 0 0) 0 [] rfl (World.ownsRow_nil _ _ _ _) ⟨g, 0, none⟩ j cD (flat2 (D.take j)) rfl HL1.out HF1.out (one_cells2 _) (by unfold maxLen; omega) (by omega) (Nat.le_refl _) ?_; intro v1 w1 o1 g1 _; have HO1 := Lib.hid o1; have HB1 := Lib.hid (below_grown1 (w := wr) g1); have d0 := (HB1.out.cell (p := ⟨b, off + j * 2, none⟩) hbw).trans c0; have d1 := (HB1.out.cell (p := ⟨b, off + j * 2 + 1, none⟩) hbw).trans c1; clear o1 g1) | (at_builtin; refine wpList_append_own _ rfl (.tmp 37) (.tmp 42) 22 rfl wr.heap.size 34 i0 (.agg #[.int .i64 0, .int .i64 0]) 2 16 Tryd.underlying22 hi0 hz0 hz1 hz2 rfl (by decide) v1 (0 + j) ([] ++ flat2 (D.take j)) rfl (World.ownsRow.alloc HO1.out _) ⟨w1.heap.size, 0, none⟩ 1 1 [.int .i64 xt, .int .i64 xi] rfl rfl (World.news_of_block (cs := #[.int .i64 xt, .int .i64 xi]) (t := 34) (fr := (0, 0)) (heap_alloc_new _ _)) (by simp [Value.oneCell']) (by unfold maxLen; omega) (by omega) (by have := HB1.out.size; simp; omega) ?_; intro v2 w2 o2 g2 _; have HO2 := Lib.hid o2; have HB2 := Lib.hid (below_grown2 HB1.out HO1.out g2); clear o2 g2) | (at_builtin; refine wpList_append_own _ rfl (.tmp 44) (.tmp 47) 22 rfl wr.heap.size 34 i0 (.agg #[.int .i64 0, .int .i64 0]) 2 16 Tryd.underlying22 hi0 hz0 hz1 hz2 rfl (by decide) v2 (0 + j + 1) ([] ++ flat2 (D.take j) ++ [.int .i64 xt, .int .i64 xi]) rfl HO2.out ⟨g, j * 2, none⟩ 0 _ [] rfl rfl (fun i u hu => by cases hu) (by simp) (by unfold maxLen; omega) (by omega) HB2.out.size ?_; intro v3 w3 o3 g3 _; have HP3 := Lib.hid (HPost.out w3 v3 (below_grown3 HB2.out HO2.out g3) (by rw [Hd0.out, Hz0.out]; exact o3)); clear o3 g3))
              go_roundw
              case rel =>
                obtain ⟨D', a', c', e', hR⟩ := HP3.out
                exact ⟨j + 1, D', a', c', by go_num, e', hR⟩
              case measure => simp only [intOf]; have := HLT.out; omega
            · obtain rfl : j = cD := by omega
              have Hz0 := Lib.hid (Nat.sub_self j)
              have Hd0 : Hid (flat2 (D.drop j) = []) := Lib.hid (by rw [List.drop_of_length_le (by rw [HV.out.len]; exact Nat.le_refl _)]; rfl)
              have HF1 := Lib.hid (own_from0 HV.out.own j (by have := HV.out.len; omega))
              have HL1 := Lib.hid (show (flat2 (D.take j)).length = j * 2 by rw [flat2_length, List.length_take, Nat.min_eq_left (by have := HV.out.len; omega)])
              have HPost : Hid (∀ (w3 : World) (v3 : Value), Below wr.heap.size wr w3 → w3.ownsRow wr.heap.size 34 2 v3 (0 + j + 1 + (j - j)) ([] ++ flat2 (D.take j) ++ [.int .i64 xt, .int .i64 xi] ++ flat2 (D.drop j)) → ∃ D' aD' j', v3 = .slice aD' (j + 1) j' ∧ RInv w l w3 (j + 1) D' aD' j') := Lib.hid (fun w3 v3 hb ho => round_post (j := j) HV.out HBef.out HLT.out HGX.out (by have := HV.out.len; omega) (by rw [← HXT.out]; exact HALL.out) (by rw [← HXT.out]; exact HSTOP.out) hb _ (by rw [HV.out.len]) rfl (by rw [← HXT.out, ← HXI.out]; exact ho))
              go_wp2_with fail
              go_quiet (fail)
              go_wp2_with (first | (at_builtin; refine wpList_append_own _ rfl (.tmp 32) (.tmp 35) 22 rfl wr.heap.size 34 i0 (.agg #[.int .i64 0, .int .i64 0]) 2 16 Tryd.underlying22 hi0 hz0 hz1 hz2 rfl (by decide) (.slice none 0 0) 0 [] rfl (World.ownsRow_nil _ _ _ _) ⟨g, 0, none⟩ j j (flat2 (D.take j)) rfl HL1.out HF1.out (one_cells2 _) (by unfold maxLen; omega) (by omega) (Nat.le_refl _) ?_; intro v1 w1 o1 g1 _; have HO1 := Lib.hid o1; have HB1 := Lib.hid (below_grown1 (w := wr) g1); have d0 := (HB1.out.cell (p := ⟨b, off + j * 2, none⟩) hbw).trans c0; have d1 := (HB1.out.cell (p := ⟨b, off + j * 2 + 1, none⟩) hbw).trans c1; clear o1 g1) | (at_builtin; refine wpList_append_own _ rfl (.tmp 37) (.tmp 42) 22 rfl wr.heap.size 34 i0 (.agg #[.int .i64 0, .int .i64 0]) 2 16 Tryd.underlying22 hi0 hz0 hz1 hz2 rfl (by decide) v1 (0 + j) ([] ++ flat2 (D.take j)) rfl (World.ownsRow.alloc HO1.out _) ⟨w1.heap.size, 0, none⟩ 1 1 [.int .i64 xt, .int .i64 xi] rfl rfl (World.news_of_block (cs := #[.int .i64 xt, .int .i64 xi]) (t := 34) (fr := (0, 0)) (heap_alloc_new _ _)) (by simp [Value.oneCell']) (by unfold maxLen; omega) (by omega) (by have := HB1.out.size; simp; omega) ?_; intro v2 w2 o2 g2 _; have HO2 := Lib.hid o2; have HB2 := Lib.hid (below_grown2 HB1.out HO1.out g2); clear o2 g2) | (at_builtin; refine wpList_append_own _ rfl (.tmp 44) (.tmp 47) 22 rfl wr.heap.size 34 i0 (.agg #[.int .i64 0, .int .i64 0]) 2 16 Tryd.underlying22 hi0 hz0 hz1 hz2 rfl (by decide) v2 (0 + j + 1) ([] ++ flat2 (D.take j) ++ [.int .i64 xt, .int .i64 xi]) rfl HO2.out ⟨g, 0, none⟩ 0 0 [] rfl rfl (fun i u hu => by cases hu) (by simp) (by unfold maxLen; omega) (by omega) HB2.out.size ?_; intro v3 w3 o3 g3 _; have HP3 := Lib.hid (HPost.out w3 v3 (below_grown3 HB2.out HO2.out g3) (by rw [Hd0.out, Hz0.out]; exact o3)); clear o3 g3))
              go_roundw
              case rel =>
                obtain ⟨D', a', c', e', hR⟩ := HP3.out
                exact ⟨j + 1, D', a', c', by go_num, e', hR⟩
              case measure => simp only [intOf]; have := HLT.out; omega
    · obtain rfl : k = l.length := by omega
      have h3 : decide (((l.length : Nat) : Int) < (l.length : Int)) = false := by simp
      go_wp2
      go_ret
      have hV := HV.out
      exact ⟨D, aD, cD, by rw [hV.len]; rfl, by have := hV.perm; rwa [List.take_length] at this, hV.srt, hV.own, hV.below⟩
end Go.Proofs.YtienepcknafddaaDoor
