/- WALKS: the law's first, without; ricksteadsame.Events. -/
import Derived.Test.YtominbodniikpaaDoorEtRow
import Derived.Test.YtominbodniikpaaDoorSimPlaysPlain
import Derived.Laws.AppendOwnNone
import Derived.Laws.StructEq
namespace Go.Proofs.YtominbodniikpaaDoor
open Go Go.RowKit SimPlain HeapPlain

/-- on the way: the first of the least among those below i -/
structure FirstAt (l : List Ev) (i k : Nat) : Prop where
  lt : k < l.length
  least : ∀ j, j < i → (l.getD k e0).t ≤ (l.getD j e0).t
  first : ∀ j, j < k → (l.getD k e0).t < (l.getD j e0).t
theorem FirstAt.full {l : List Ev} {k : Nat} (h : FirstAt l l.length k) : IsFirst l k := ⟨h.lt, h.least, h.first⟩
theorem FirstAt.new {l : List Ev} {i k : Nat} (h : FirstAt l i k) (hi : i < l.length) (hlt : (l.getD i e0).t < (l.getD k e0).t) : FirstAt l (i + 1) i := by
  refine ⟨hi, fun j hj => ?_, fun j hj => ?_⟩
  · rcases Nat.lt_or_ge j i with c | c
    · have := h.least j c; omega
    · obtain rfl : j = i := by omega
      exact Int.le_refl _
  · have := h.least j hj; omega
theorem FirstAt.old {l : List Ev} {i k : Nat} (h : FirstAt l i k) (hle : (l.getD k e0).t ≤ (l.getD i e0).t) : FirstAt l (i + 1) k := by
  refine ⟨h.lt, fun j hj => ?_, h.first⟩
  rcases Nat.lt_or_ge j i with c | c
  · exact h.least j c
  · obtain rfl : j = i := by omega
    exact hle
theorem first_same {l : List Ev} {k k' : Nat} (h : IsFirst l k) (h' : IsFirst l k') : k = k' := by
  rcases Nat.lt_trichotomy k k' with c | c | c
  · have := h'.first k c; have := h.least k' h'.lt; omega
  · exact c
  · have := h.first k' c; have := h'.least k h.lt; omega
theorem FirstAt.exists (l : List Ev) (h0 : 0 < l.length) : ∀ i, i ≤ l.length → ∃ k, FirstAt l i k := by
  intro i
  induction i with
  | zero => exact fun _ => ⟨0, h0, fun j h => by omega, fun j h => by omega⟩
  | succ i ih =>
    intro hi
    obtain ⟨k, hk⟩ := ih (by omega)
    rcases Int.lt_or_le (l.getD i e0).t (l.getD k e0).t with c | c
    · exact ⟨i, hk.new (by omega) c⟩
    · exact ⟨k, hk.old c⟩
theorem first_exists {l : List Ev} (h0 : 0 < l.length) : ∃ k, IsFirst l k := by
  obtain ⟨k, h⟩ := FirstAt.exists l h0 l.length (Nat.le_refl _)
  exact ⟨k, h.full⟩
set_option maxHeartbeats 1000000 in
theorem first_at (l : List Ev) (kk : Nat) (hkk : IsFirst l kk) (a : Option Addr) (cap B : Nat) (w : World) (hx : EtOwn w B a cap l) (hl : l.length ≤ 1000) :
    Calls Tryd.prog 5 #[.slice a l.length cap] w fun e w' => e = .returned (.int .i64 kk) ∧ ∃ q, w' = w.drewN q := by
  have h0 : 0 < l.length := by have := hkk.lt; omega
  obtain ⟨g, rfl, _, _, hc⟩ := hx.open h0
  have HC := Lib.hid hc
  have HK := Lib.hid hkk
  clear hc hkk
  go_enter Tryd.func5, Tryd.ntmps5
  go_wp2
  go_loopw [3, 4] (fun kv ii wr => ∃ k i q : Nat, kv = .int .i64 k ∧ ii = .int .i64 i ∧ i ≤ l.length ∧ FirstAt l i k ∧ wr = w.drewN q) (fun _ ii _ => l.length - (intOf ii).toNat)
  case atStart => exact ⟨0, 0, 0, rfl, rfl, Nat.zero_le _, ⟨h0, fun j h => by omega, fun j h => by omega⟩, rfl⟩
  case round =>
    obtain ⟨k, i, q, rfl, rfl, hi, hF, rfl⟩ := hrel
    have hkl := hF.lt
    have HF := Lib.hid hF
    clear hF
    rcases Nat.lt_or_ge i l.length with hlt | hge
    · have c0 := (HC.out i hlt).1
      have c1 := (HC.out k hkl).1
      have hiI : (i : Int) < l.length := by omega
      have hkI : (k : Int) < l.length := by omega
      have HN := Lib.hid (fun h => HF.out.new hlt h)
      have HO := Lib.hid (fun h => HF.out.old (i := i) h)
      generalize (l.getD i e0).t = ti at *
      generalize (l.getD k e0).t = tk at *
      rcases Int.lt_or_le ti tk with h | h
      · have HF2 := Lib.hid (HN.out h)
        go_wp2
        go_quiet (fail)
        go_wp2
        go_roundw
        case rel => exact ⟨i, i + 1, _, rfl, by go_num, by omega, HF2.out, by first | rfl | rw [World.drewN_drewN]⟩
        case measure => simp only [intOf]; omega
      · have HF2 := Lib.hid (HO.out h)
        have hd : decide (ti < tk) = false := decide_eq_false (by omega)
        go_wp2
        go_quiet (fail)
        go_wp2
        go_roundw
        case rel => exact ⟨k, i + 1, _, rfl, by go_num, by omega, HF2.out, by first | rfl | rw [World.drewN_drewN]⟩
        case measure => simp only [intOf]; omega
    · obtain rfl : l.length = i := by omega
      have h3 : decide (l.length < l.length) = false := by simp
      go_wp2
      go_ret
      exact ⟨ret_int (by have := first_same HF.out.full HK.out; omega), q, rfl⟩
/-- the cells of a stretch of a row -/
theorem EtOwn.from {w : World} {B g cap : Nat} {l : List Ev} (h : EtOwn w B (some ⟨g, 0, none⟩) cap l) (n m : Nat) (hnm : n + m ≤ l.length) : ∀ j u, (flat2 ((l.drop n).take m))[j]? = some u → w.cell? ((⟨g, n * 2, none⟩ : Addr).add j) = some u := by
  intro j u hu
  by_cases h0 : 0 < l.length
  · obtain ⟨g', e, _, _, hc⟩ := h.open h0
    obtain rfl : g = g' := by simpa using e
    have hlen : (flat2 ((l.drop n).take m)).length = m * 2 := by rw [flat2_length, List.length_take, List.length_drop]; omega
    have hj : j < m * 2 := by
      rcases Nat.lt_or_ge j (m * 2) with c | c
      · exact c
      · rw [List.getElem?_eq_none (by omega)] at hu; cases hu
    have hi : n + j / 2 < l.length := by omega
    have e1 : (flat2 ((l.drop n).take m))[j / 2 * 2 + j % 2]? = (e2Vals (((l.drop n).take m).getD (j / 2) e0))[j % 2]? := flat2_get _ _ _ (by rw [List.length_take, List.length_drop]; omega) (by omega)
    rw [show j / 2 * 2 + j % 2 = j by omega, hu] at e1
    have e2 : ((l.drop n).take m).getD (j / 2) e0 = l.getD (n + j / 2) e0 := by
      rw [List.getD_eq_getElem?_getD, List.getElem?_take_of_lt (by omega), List.getElem?_drop, ← List.getD_eq_getElem?_getD]
    rw [e2] at e1
    have e3 : (⟨g, n * 2, none⟩ : Addr).add j = ⟨g, n * 2 + j, none⟩ := by unfold Addr.add; split <;> simp_all
    rw [e3]
    obtain ⟨c0, c1⟩ := hc (n + j / 2) hi
    have hj2 : j % 2 = 0 ∨ j % 2 = 1 := by omega
    rcases hj2 with d | d
    · rw [show n * 2 + j = (n + j / 2) * 2 by omega, c0]
      rw [d] at e1
      simpa [e2Vals] using e1.symm
    · rw [show n * 2 + j = (n + j / 2) * 2 + 1 by omega, c1]
      rw [d] at e1
      simpa [e2Vals] using e1.symm
  · have : l = [] := List.eq_nil_of_length_eq_zero (by omega)
    subst this
    simp [flat2] at hu
theorem EtOwn.room {w : World} {B g cap : Nat} {l : List Ev} (h : EtOwn w B (some ⟨g, 0, none⟩) cap l) : l.length ≤ cap ∧ cap ≤ maxLen := by
  rcases h.2 with ⟨h', _⟩ | ⟨g', cap', cur, h', _, _, hc, hm, _⟩
  · simp at h'
  · simp only [Value.slice.injEq, true_and] at h'
    obtain ⟨-, rfl⟩ := h'
    exact ⟨hc, hm⟩
theorem one_cells2 (l : List Ev) : ∀ u ∈ flat2 l, u.oneCell' = true := by
  intro u hu
  obtain ⟨e, _, he⟩ := List.mem_flatMap.1 hu
  simp only [e2Vals, List.mem_cons, List.not_mem_nil, or_false] at he
  rcases he with rfl | rfl <;> rfl
theorem grown_below {w w' : World} {r : Option Nat} {B : Nat} (h : w.grownBy w' r) (hB : B ≤ w.heap.size) (hr : ∀ k, r = some k → B ≤ k) : Below B w w' :=
  ⟨h.os, h.tape, h.output, h.size, fun k hk => h.block k (by omega) fun e => by have := hr k e.symm; omega⟩
theorem mul2_wrap (k : Nat) (h : k ≤ 1000) : ((k : Int) + 1) = ((k + 1 : Nat) : Int) := by omega
def WithoutRes (l : List Ev) (k : Nat) (w : World) (e : Ending) (w' : World) : Prop :=
  ∃ a' c', e = .returned (.slice a' (l.eraseIdx k).length c') ∧ EtOwn w' w.heap.size a' c' (l.eraseIdx k) ∧ Below w.heap.size w w'
theorem without_post {l : List Ev} {k : Nat} {w w1 w2 : World} {v1 v2 : Value} (hk : k < l.length) (o1 : w1.ownsRow w.heap.size 28 2 v1 (0 + k) ([] ++ flat2 (l.take k))) (g1 : w.grownBy w1 (Value.slice none 0 0).ownBlock)
    (o2 : w2.ownsRow w.heap.size 28 2 v2 (0 + k + (l.length - (k + 1))) ([] ++ flat2 (l.take k) ++ flat2 ((l.drop (k + 1)).take (l.length - (k + 1))))) (g2 : w1.grownBy w2 v1.ownBlock) : WithoutRes l k w (.returned v2) w2 := by
  rw [show (l.drop (k + 1)).take (l.length - (k + 1)) = l.drop (k + 1) from List.take_of_length_le (by rw [List.length_drop]; omega), List.nil_append, ← flat2_append, without_eq] at o2
  obtain ⟨a', c', rfl, h⟩ := EtOwn.of o2
  refine ⟨a', c', rfl, h, (grown_below g1 (Nat.le_refl _) (fun k hk => by simp [Value.ownBlock] at hk)).trans (grown_below g2 g1.size (fun j hj => (World.ownsRow.lt o1 j hj).1))⟩
set_option maxRecDepth 100000 in
set_option maxHeartbeats 2000000 in
theorem without_any (l : List Ev) (k : Nat) (a : Option Addr) (cap B : Nat) (w : World) (hO : EtOwn w B a cap l) (hk : k < l.length) (hl : l.length ≤ 1000) :
    Calls Tryd.prog 6 #[.slice a l.length cap, .int .i64 k] w fun e w' => WithoutRes l k w e w' := by
  obtain ⟨g, rfl, hB, hg, _⟩ := hO.open (by omega)
  obtain ⟨i0, hi0, hz0, hz1, hz2⟩ := info_parts etInfo
  obtain ⟨hroom, hcm⟩ := hO.room
  have F1 := hO.from 0 k (by omega)
  rw [List.drop_zero, Nat.zero_mul] at F1
  have HF1 := Lib.hid F1
  have HF2 := Lib.hid (hO.from (k + 1) (l.length - (k + 1)) (by omega))
  have hkI : (k : Int) < l.length := by omega
  have hkc : k ≤ cap := by omega
  have hk1 : (k : Int) + 1 ≤ l.length := by omega
  have hk2 : (k : Int) + 1 ≤ 1000 := by omega
  have HP := Lib.hid (fun w1 w2 v1 v2 => @without_post l k w w1 w2 v1 v2 hk)
  clear F1 hO
  go_enter Tryd.func6, Tryd.ntmps6
  have HL2 := Lib.hid (show (flat2 ((l.drop (k + 1)).take (l.length - (k + 1)))).length = (l.length - (k + 1)) * 2 by rw [flat2_length, List.length_take, List.length_drop, Nat.min_self])
  rcases Nat.lt_or_ge (k + 1) cap with hc | hc
  · have HC2 : Hid (∀ w1, w.grownBy w1 (Value.slice none 0 0).ownBlock → ∀ j u, (flat2 ((l.drop (k + 1)).take (l.length - (k + 1))))[j]? = some u → w1.cell? ((⟨g, (k + 1) * 2, none⟩ : Addr).add j) = some u) := Lib.hid (fun w1 g1 j u hu => by
      have h2 := HF2.out j u hu
      have e3 : (⟨g, (k + 1) * 2, none⟩ : Addr).add j = ⟨g, (k + 1) * 2 + j, none⟩ := by unfold Addr.add; split <;> simp_all
      rw [e3] at h2 ⊢
      exact (World.cell?_of_block (a := ⟨g, (k + 1) * 2 + j, none⟩) (g1.block g hg (by simp [Value.ownBlock]))).trans h2)
    go_wp2_with (first | (at_builtin; refine wpList_append_own _ rfl (.tmp 6) (.tmp 9) 25 rfl w.heap.size 28 i0 (.agg #[.int .i64 0, .int .i64 0]) 2 16 Tryd.underlying25 hi0 hz0 hz1 hz2 rfl (by decide) (.slice none 0 0) 0 [] rfl (World.ownsRow_nil _ _ _ _) ⟨g, 0, none⟩ k cap (flat2 (l.take k)) rfl (by rw [flat2_length, List.length_take, Nat.min_eq_left (by omega)]) HF1.out (one_cells2 _) (by unfold maxLen; omega) (by omega) (Nat.le_refl _) ?_; intro v1 w1 o1 g1 _; have HO1 := Lib.hid o1; have HG1 := Lib.hid g1; clear o1 g1) | (at_builtin; refine wpList_append_own _ rfl (.tmp 11) (.tmp 15) 25 rfl w.heap.size 28 i0 (.agg #[.int .i64 0, .int .i64 0]) 2 16 Tryd.underlying25 hi0 hz0 hz1 hz2 rfl (by decide) v1 (0 + k) ([] ++ flat2 (l.take k)) rfl HO1.out ⟨g, (k + 1) * 2, none⟩ (l.length - (k + 1)) _ (flat2 ((l.drop (k + 1)).take (l.length - (k + 1)))) rfl HL2.out (HC2.out w1 HG1.out) (one_cells2 _) (by unfold maxLen; omega) (by omega) HG1.out.size ?_; intro v2 w2 o2 g2 _; have HP2 := Lib.hid (HP.out w1 w2 v1 v2 HO1.out HG1.out o2 g2); clear o2 g2))
    go_ret
    exact HP2.out
  · obtain rfl : cap = k + 1 := by omega
    have hle : l.length = k + 1 := by omega
    have Hle0 := Lib.hid (show l.length - (k + 1) = 0 by omega)
    have Hd0 := Lib.hid (show flat2 ((l.drop (k + 1)).take (l.length - (k + 1))) = [] by rw [Hle0.out]; rfl)
    clear hle
    go_wp2_with (first | (at_builtin; refine wpList_append_own _ rfl (.tmp 6) (.tmp 9) 25 rfl w.heap.size 28 i0 (.agg #[.int .i64 0, .int .i64 0]) 2 16 Tryd.underlying25 hi0 hz0 hz1 hz2 rfl (by decide) (.slice none 0 0) 0 [] rfl (World.ownsRow_nil _ _ _ _) ⟨g, 0, none⟩ k (k + 1) (flat2 (l.take k)) rfl (by rw [flat2_length, List.length_take, Nat.min_eq_left (by omega)]) HF1.out (one_cells2 _) (by unfold maxLen; omega) (by omega) (Nat.le_refl _) ?_; intro v1 w1 o1 g1 _; have HO1 := Lib.hid o1; have HG1 := Lib.hid g1; clear o1 g1) | (at_builtin; refine wpList_append_own _ rfl (.tmp 11) (.tmp 15) 25 rfl w.heap.size 28 i0 (.agg #[.int .i64 0, .int .i64 0]) 2 16 Tryd.underlying25 hi0 hz0 hz1 hz2 rfl (by decide) v1 (0 + k) ([] ++ flat2 (l.take k)) rfl HO1.out ⟨g, 0, none⟩ 0 0 [] rfl rfl (fun j u hu => by cases hu) (by simp) (by unfold maxLen; omega) (by omega) HG1.out.size ?_; intro v2 w2 o2 g2 _; have HP2 := Lib.hid (HP.out w1 w2 v1 v2 HO1.out HG1.out (by rw [Hd0.out, Hle0.out]; exact o2) g2); clear o2 g2))
    go_ret
    exact HP2.out
end Go.Proofs.YtominbodniikpaaDoor
