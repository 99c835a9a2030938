/- WALK: a line of a session, by the program. -/
import Derived.Test.YtfejlkgddnamoaaGreatDoorDeskDo
import Derived.Test.YtfejlkgddnamoaaGreatDoorDeskNums
import Derived.Test.YtfejlkgddnamoaaGreatDoorDeskWays
import Derived.Test.YtfejlkgddnamoaaGreatDoorDeskErr
set_option linter.unusedVariables false
set_option linter.unusedSimpArgs false
namespace Go.Proofs.YtfejlkgddnamoaaGreatDoor
open Go Go.RowKit SimPlain HeapPlain BookPlain NumPlain SpPlain LinesPlain

def ActRes (B0 D : Nat) (F : Nat → Prop) (r : St × List UInt8) (w : World) (e : Ending) (w' : World) : Prop :=
  e = .returned (.string ⟨r.2.toArray⟩) ∧ ∃ F', DeskS w' B0 D F' r.1 ∧ (∀ k, F' k → F k ∨ (w.heap.size ≤ k ∧ k < w'.heap.size)) ∧ Only w w' (fun k => F k ∨ k = D)
theorem act_stay {w w' : World} {B0 D : Nat} {F : Nat → Prop} {st : St} {ans : List UInt8} (h : DeskS w B0 D F st) (b : Below w.heap.size w w') (e : Ending) (he : e = .returned (.string ⟨ans.toArray⟩)) : ActRes B0 D F (st, ans) w e w' :=
  ⟨he, F, h.only (only_of_below b (fun _ => False)) (fun _ _ c => c) (fun c => c), fun k hk => .inl hk, only_of_below b _⟩
theorem act_on {w w3 w4 w5 : World} {B0 D : Nat} {F F' : Nat → Prop} {r : St × List UInt8} (h : DeskS w B0 D F r.1 ∨ True) (b : Below w.heap.size w w3) (hD : DeskS w4 B0 D F' r.1) (hF : ∀ k, F' k → F k ∨ (w3.heap.size ≤ k ∧ k < w4.heap.size)) (o : Only w3 w4 (fun k => F k ∨ k = D)) (b5 : Below w4.heap.size w4 w5)
    (e : Ending) (he : e = .returned (.string ⟨r.2.toArray⟩)) : ActRes B0 D F r w e w5 := by
  have h1 := b.size
  have h2 := b5.size
  refine ⟨he, F', hD.only (only_of_below b5 (fun _ => False)) (fun _ _ c => c) (fun c => c), fun k hk => ?_, ((only_of_below b _).trans o (fun _ _ c => c)).trans (only_of_below b5 _) (fun _ _ c => c)⟩
  rcases hF k hk with c | c
  · exact .inl c
  · exact .inr (by omega)
theorem way_zero (w : World) : (zeroValue 99).run Tryz.prog w = .ok (.agg #[.int .i64 0, .nilFunc]) w := by kernel_rfl
theorem word_len (s : List UInt8) (hs : s.length ≤ 100000) (ws : List (List UInt8)) (hws : ws = splitSp s) : ∀ k, (ws.getD k []).length ≤ 100000 := fun k => by
  rcases Nat.lt_or_ge k ws.length with c | c
  · have hm : ws.getD k [] ∈ splitSp s := by
      rw [← hws, List.getD_eq_getElem?_getD, List.getElem?_eq_getElem c]; exact List.getElem_mem c
    have := splitSp_le _ _ hm
    omega
  · rw [List.getD_eq_getElem?_getD, List.getElem?_eq_none c]; simp
/-- the way of a word, looked up in a map that was just made -/
def wayZ : Obj := .cells #[.int .i64 0, .nilFunc] 99
def WayAt (w1 : World) (bx : Nat) (c0 c1 : Value) (w : World) : Prop := w.heap[bx]? = some (.cells #[c0, c1] 99 (0, 0)) ∧ Below w1.heap.size w1 w
theorem way_store {w1 W : World} {bx : Nat} {a0 a1 : Value} (h : W.heap[bx]? = some (.cells #[a0, a1] 99 (0, 0))) (hb : w1.heap.size ≤ bx) (b : Below w1.heap.size w1 W) (c0 c1 : Value) : WayAt w1 bx c0 c1 ((W.setCell ⟨bx, 0, none⟩ c0).setCell ⟨bx, 1, none⟩ c1) :=
  ⟨heap_setCell_same _ _ _ _ _ _ (heap_setCell_same _ _ _ _ _ _ h), (b.setCell (p := ⟨bx, 0, none⟩) hb c0).setCell (p := ⟨bx, 1, none⟩) hb c1⟩
def LookEq (b : Nat) (Y : ByteArray) (v : Value) (ok : Bool) (W : World) : Prop := (Instr.lookup 101 (.map (some b)) (.string Y) true).run Tryz.prog W = .ok (.tuple #[v, .bool ok]) W
theorem look_eq (W : World) (b : Nat) (hm : W.heap[b]? = some (.map waysE 4)) (Y : ByteArray) (v : Value) (ok : Bool) (hw : match wayOf Y with
    | some (m, k) => v = wayV m k ∧ ok = true
    | none => v = .agg #[.int .i64 0, .nilFunc] ∧ ok = false) : LookEq b Y v ok W := by
  obtain ⟨f, hf, hv⟩ := find_ways Y
  unfold LookEq
  cases f with
  | none =>
    have hl := run_look (P := Tryz.prog) (w := W) 101 9 99 b 4 waysE Y _ Tryz.underlying101 Tryz.underlying9 hm (way_zero W) none hf
    simp only at hv
    rw [hv] at hw
    simp only at hw
    rw [hl, hw.1, hw.2]
  | some x =>
    obtain ⟨i, u⟩ := x
    have hl := run_look (P := Tryz.prog) (w := W) 101 9 99 b 4 waysE Y _ Tryz.underlying101 Tryz.underlying9 hm (way_zero W) (some (i, u)) hf
    obtain ⟨m, k, h1, h2⟩ := hv
    rw [h1] at hw
    simp only at hw
    rw [hl, hw.1, hw.2, ← h2]
/-- the box made behind the map -/
structure LookA (w1 : World) (b g : Nat) (Y : ByteArray) (v : Value) (ok : Bool) (w2 : World) : Prop where
  low : Below w1.heap.size w1 w2
  c : w2.cell? ⟨g, 0, none⟩ = some (.string Y)
  c' : (w2.alloc wayZ).cell? ⟨g, 0, none⟩ = some (.string Y)
  l : LookEq b Y v ok w2
  l' : LookEq b Y v ok (w2.alloc wayZ)
/-- the box made ahead of the map -/
structure LookB (w1 : World) (b g : Nat) (Y : ByteArray) (v : Value) (ok : Bool) (w2 : World) : Prop where
  low : Below w1.heap.size w1 w2
  c : w2.cell? ⟨g, 0, none⟩ = some (.string Y)
  l : LookEq b Y v ok w2
  box : w2.heap[w1.heap.size]? = some wayZ
theorem ways_lookA (w : World) (g : Nat) (Y : ByteArray) (hc : w.cell? ⟨g, 0, none⟩ = some (.string Y)) (v : Value) (ok : Bool) (hw : match wayOf Y with
    | some (m, k) => v = wayV m k ∧ ok = true
    | none => v = .agg #[.int .i64 0, .nilFunc] ∧ ok = false) :
    Calls Tryz.prog 52 #[] w.drew fun e w' => ∃ b, e = .returned (.map (some b)) ∧ LookA w b g Y v ok w' := by
  refine (ways_any w.drew).mono ?_
  rintro e w' ⟨rfl, hm, hs, hb⟩
  have hb' : Below w.heap.size w w' := ((Below.refl w.heap.size w).drew).trans hb
  have hb2 : Below w.heap.size w (w'.alloc wayZ) := hb'.alloc hb'.size _
  have hgl := World.block_lt_of_cell? w _ hc
  have hm2 : (w'.alloc wayZ).heap[w.drew.heap.size]? = some (.map waysE 4) := (Below.heap_alloc _ _ _ (lt_of_block hm)).trans hm
  exact ⟨_, rfl, hb', (hb'.cell (p := ⟨g, 0, none⟩) hgl).trans hc, (hb2.cell (p := ⟨g, 0, none⟩) hgl).trans hc, look_eq _ _ hm Y v ok hw, look_eq _ _ hm2 Y v ok hw⟩
theorem ways_lookB (w : World) (g : Nat) (Y : ByteArray) (hc : w.cell? ⟨g, 0, none⟩ = some (.string Y)) (v : Value) (ok : Bool) (hw : match wayOf Y with
    | some (m, k) => v = wayV m k ∧ ok = true
    | none => v = .agg #[.int .i64 0, .nilFunc] ∧ ok = false) :
    Calls Tryz.prog 52 #[] ((w.alloc wayZ).drew) fun e w' => ∃ b, e = .returned (.map (some b)) ∧ LookB w b g Y v ok w' := by
  refine (ways_any ((w.alloc wayZ).drew)).mono ?_
  rintro e w' ⟨rfl, hm, hs, hb⟩
  have hb1 : Below w.heap.size w ((w.alloc wayZ).drew) := ((Below.refl w.heap.size w).alloc (Nat.le_refl _) _).drew
  have hb' : Below w.heap.size w w' := hb1.trans (hb.mono hb1.size)
  have hgl := World.block_lt_of_cell? w _ hc
  exact ⟨_, rfl, hb', (hb'.cell (p := ⟨g, 0, none⟩) hgl).trans hc, look_eq _ _ hm Y v ok hw, (hb.block w.heap.size (by show w.heap.size < (w.alloc wayZ).heap.size; simp)).trans (heap_alloc_new w wayZ)⟩
set_option maxRecDepth 100000 in
set_option maxHeartbeats 8000000 in
theorem line_other {w : World} {B0 D : Nat} {F : Nat → Prop} {st : St} {j : Nat} (h : DeskS w B0 D F st) (inv : Inv st j) (hj : j ≤ 5000) (hB0 : 9 ≤ B0) (env : Env w) (hg : Handle w) (hbad : BadG w) (s : List UInt8) (hs : s.length ≤ 100000) (ws : List (List UInt8)) (hws : ws = splitSp s)
    (t : List UInt8) (hno : wayOf ⟨t.toArray⟩ = none) (hact : wordsA st ws = (st, badB)) (h0 : ws.getD 0 [] = t) : Calls Tryz.prog 35 #[.pointer (some ⟨D, 0, none⟩), .string ⟨s.toArray⟩] w fun e w' => ActRes B0 D F (wordsA st ws) w e w' := by
  have hpos : 0 < ws.length := by rw [hws]; exact splitSp_pos s
  have HWl := Lib.hid (word_len s hs ws hws)
  have hSplit := split_any ⟨s.toArray⟩ w env.max (by rw [mk_size]; omega)
  have e0 : (⟨s.toArray⟩ : ByteArray).data.toList = s := rfl
  rw [e0, ← hws] at hSplit
  have HSplit := Lib.hid hSplit
  obtain ⟨X, hX⟩ : ∃ X : ByteArray, X = ⟨s.toArray⟩ := ⟨_, rfl⟩
  rw [← hX] at HSplit ⊢
  have HH := Lib.hid h
  have HEnv := Lib.hid env
  have HG := Lib.hid hg
  have HBad := Lib.hid hbad
  have HInv := Lib.hid inv
  obtain ⟨nw, hnw⟩ : ∃ nw, nw = ws.length := ⟨_, rfl⟩
  have HNw := Lib.hid hnw
  have H0 := Lib.hid h0
  rw [← hnw] at HSplit hpos
  clear h env hg hbad inv hs hws hX hnw h0 hSplit e0
  go_enter Tryz.func35, Tryz.ntmps35
  go_wp2_with fail
  refine HSplit.out.mono ?_
  rintro e w1 ⟨g, rfl, hcs, hb1⟩
  have hc0 : w1.cell? ⟨g, 0, none⟩ = some (.string ⟨t.toArray⟩) := by
    have h := hcs 0 hpos
    rw [H0.out] at h
    exact h
  have HWA := Lib.hid (ways_lookA w1 g ⟨t.toArray⟩ hc0 (.agg #[.int .i64 0, .nilFunc]) false (by rw [hno]; exact ⟨rfl, rfl⟩))
  have HWB := Lib.hid (ways_lookB w1 g ⟨t.toArray⟩ hc0 (.agg #[.int .i64 0, .nilFunc]) false (by rw [hno]; exact ⟨rfl, rfl⟩))
  have hz0 : (w1.alloc wayZ).cell? ⟨g, 0, none⟩ = some (.string ⟨t.toArray⟩) := (((Below.refl w1.heap.size w1).alloc (Nat.le_refl _) wayZ).cell (p := ⟨g, 0, none⟩) (World.block_lt_of_cell? w1 _ hc0)).trans hc0
  have hz1 : (w1.alloc wayZ).drew.cell? ⟨g, 0, none⟩ = some (.string ⟨t.toArray⟩) := hz0
  unfold wayZ at HWB hz0 hz1
  have HB1 := Lib.hid hb1
  have HCs := Lib.hid (fun i (hi : i < nw) => hcs i hi)
  have hposI : (0 : Int) < (nw : Int) := by omega
  clear hb1 hcs
  go_wp2_with fail
  go_cut [6, 7] (fun s6 s7 wx => ∃ bx, s6 = .pointer (some ⟨bx, 0, none⟩) ∧ s7 = .bool false ∧ WayAt w1 bx (.int .i64 0) (.nilFunc) wx)
  case first =>
    go_region_with (first
      | (go_at_call 52; with_reducible refine HWA.out.mono ?_; rintro e w2 ⟨b, rfl, hA⟩; have HA := Lib.hid hA; obtain ⟨_, qc, qc', ql, ql'⟩ := hA; unfold LookEq at ql ql'; unfold wayZ at qc' ql'; (try unfold wayV at ql ql'))
      | (go_at_call 52; with_reducible refine HWB.out.mono ?_; rintro e w2 ⟨b, rfl, hB⟩; have HB := Lib.hid hB; obtain ⟨_, qc, ql, qb⟩ := hB; unfold LookEq at ql; unfold wayZ at qb; (try unfold wayV at ql); have q0 : w2.cell? ⟨w1.heap.size, 0, none⟩ = some (.int .i64 0) := (by simp [World.cell?, qb]); have q1 : w2.cell? ⟨w1.heap.size, 1, none⟩ = some .nilFunc := (by simp [World.cell?, qb]); have q2 : w2.frozen? ⟨w1.heap.size, 0, none⟩ = false := (by simp [World.frozen?, qb]); have q3 : w2.frozen? ⟨w1.heap.size, 1, none⟩ = false := (by simp [World.frozen?, qb])))
    all_goals
      go_wp2_with fail
      go_meet
      first
        | exact ⟨_, rfl, rfl, heap_alloc_new w2 _, HA.out.low.alloc HA.out.low.size _⟩
        | exact ⟨_, rfl, rfl, way_store (W := w2.alloc wayZ) (heap_alloc_new w2 wayZ) HA.out.low.size (HA.out.low.alloc HA.out.low.size _) _ _⟩
        | exact ⟨_, rfl, rfl, way_store HB.out.box (Nat.le_refl _) HB.out.low _ _⟩
  case rest =>
    obtain ⟨bx, rfl, rfl, hbx, hb2⟩ := hcut
    have x0 : wc.cell? ⟨bx, 0, none⟩ = some (.int .i64 0) := by simp [World.cell?, hbx]
    have x1 : wc.cell? ⟨bx, 1, none⟩ = some (.nilFunc) := by simp [World.cell?, hbx]
    have HB2 : Hid (Below w.heap.size w wc) := Lib.hid (HB1.out.trans (hb2.mono HB1.out.size))
    have HCs2 : Hid (∀ i, i < nw → wc.cell? ⟨g, i, none⟩ = some (.string ⟨(ws.getD i []).toArray⟩)) := Lib.hid fun i hi => (hb2.cell (p := ⟨g, i, none⟩) (World.block_lt_of_cell? w1 _ (HCs.out i hi))).trans (HCs.out i hi)
    have Hbx := Lib.hid hbx
    clear hbx hb2
    go_wp2
    go_ret
    rw [hact]
    exact act_stay HH.out HB2.out _ rfl

/-! what the words come to -/
theorem wordsA_push (st : St) (ws : List (List UInt8)) (h0 : ws.getD 0 [] = pushW) (hl : ws.length = 3) : wordsA st ws = match shortP (ws.getD 1 []), shortP (ws.getD 2 []) with
    | some k, some i => pushA st k i
    | _, _ => (st, badB) := by
  unfold wordsA
  rw [if_neg (fun c => by omega), if_neg (fun c => by omega), if_pos ⟨hl, h0⟩]
  cases shortP (ws.getD 1 []) <;> cases shortP (ws.getD 2 []) <;> rfl
theorem wordsA_crash (st : St) (ws : List (List UInt8)) (h0 : ws.getD 0 [] = crashW) (hl : ws.length = 2) : wordsA st ws = match shortP (ws.getD 1 []) with
    | some n => crashP st n
    | none => (st, badB) := by
  unfold wordsA
  rw [if_neg (fun c => by omega), if_neg (fun c => by omega), if_neg (fun c => by omega), if_pos ⟨hl, h0⟩]
  cases shortP (ws.getD 1 []) <;> rfl
theorem wordsA_many (st : St) (ws : List (List UInt8)) (h0 : ws.getD 0 [] = manyW) (hl : ws.length = 1) : wordsA st ws = (st, Lib.itoa (st.q.length : Nat)) := by
  unfold wordsA
  rw [if_pos ⟨hl, h0⟩]
theorem wordsA_pop (st : St) (ws : List (List UInt8)) (h0 : ws.getD 0 [] = popB) (hl : ws.length = 1) : wordsA st ws = popA st := by
  unfold wordsA
  rw [if_neg (fun c => by rw [h0] at c; exact absurd c.2 (by decide)), if_pos ⟨hl, h0⟩]
theorem words_len_push (st : St) (ws : List (List UInt8)) (h0 : ws.getD 0 [] = pushW) (hl : ws.length ≠ 3) : wordsA st ws = (st, badB) := by
  unfold wordsA
  rw [h0, if_neg (fun c => absurd c.2 (by decide)), if_neg (fun c => absurd c.2 (by decide)), if_neg (fun c => hl c.1), if_neg (fun c => absurd c.2 (by decide))]
theorem words_len_crash (st : St) (ws : List (List UInt8)) (h0 : ws.getD 0 [] = crashW) (hl : ws.length ≠ 2) : wordsA st ws = (st, badB) := by
  unfold wordsA
  rw [h0, if_neg (fun c => absurd c.2 (by decide)), if_neg (fun c => absurd c.2 (by decide)), if_neg (fun c => absurd c.2 (by decide)), if_neg (fun c => hl c.1)]
theorem words_len_many (st : St) (ws : List (List UInt8)) (h0 : ws.getD 0 [] = manyW) (hl : ws.length ≠ 1) : wordsA st ws = (st, badB) := by
  unfold wordsA
  rw [h0, if_neg (fun c => hl c.1), if_neg (fun c => absurd c.2 (by decide)), if_neg (fun c => absurd c.2 (by decide)), if_neg (fun c => absurd c.2 (by decide))]
theorem words_len_pop (st : St) (ws : List (List UInt8)) (h0 : ws.getD 0 [] = popB) (hl : ws.length ≠ 1) : wordsA st ws = (st, badB) := by
  unfold wordsA
  rw [h0, if_neg (fun c => absurd c.2 (by decide)), if_neg (fun c => hl c.1), if_neg (fun c => absurd c.2 (by decide)), if_neg (fun c => absurd c.2 (by decide))]
theorem two_of (ws : List (List UInt8)) (hl : ws.length = 3) : ws.drop 1 = [ws.getD 1 [], ws.getD 2 []] := by
  match ws, hl with
  | [a, b, c], _ => rfl
theorem one_of (ws : List (List UInt8)) (hl : ws.length = 2) : ws.drop 1 = [ws.getD 1 []] := by
  match ws, hl with
  | [a, b], _ => rfl
theorem nums_two (a b : List UInt8) : nums [a, b] = match shortP a, shortP b with
    | some k, some i => some [k, i]
    | _, _ => none := by
  simp only [nums]
  cases shortP a <;> cases shortP b <;> rfl
theorem nums_one (a : List UInt8) : nums [a] = match shortP a with
    | some k => some [k]
    | none => none := by
  simp only [nums]
  cases shortP a <;> rfl
theorem act_push (st : St) (ws : List (List UInt8)) (h0 : ws.getD 0 [] = pushW) (hl : ws.length = 3) (l : List Int) (h : nums (ws.drop 1) = some l) : ∃ k i, l = [k, i] ∧ wordsA st ws = pushA st k i := by
  rw [two_of ws hl, nums_two] at h
  rw [wordsA_push st ws h0 hl]
  cases h1 : shortP (ws.getD 1 []) with
  | none => rw [h1] at h; cases h
  | some k =>
    cases h2 : shortP (ws.getD 2 []) with
    | none => rw [h1, h2] at h; cases h
    | some i =>
      rw [h1, h2] at h
      exact ⟨k, i, (Option.some.inj h).symm, rfl⟩
theorem act_none_push (st : St) (ws : List (List UInt8)) (h0 : ws.getD 0 [] = pushW) (hl : ws.length = 3) (h : nums (ws.drop 1) = none) : wordsA st ws = (st, badB) := by
  rw [two_of ws hl, nums_two] at h
  rw [wordsA_push st ws h0 hl]
  cases h1 : shortP (ws.getD 1 []) with
  | none => rfl
  | some k =>
    cases h2 : shortP (ws.getD 2 []) with
    | none => rfl
    | some i => rw [h1, h2] at h; cases h
theorem act_crash (st : St) (ws : List (List UInt8)) (h0 : ws.getD 0 [] = crashW) (hl : ws.length = 2) (l : List Int) (h : nums (ws.drop 1) = some l) : ∃ n, l = [n] ∧ wordsA st ws = crashP st n ∧ -9223372036854775808 ≤ n ∧ n ≤ 9223372036854775807 := by
  rw [one_of ws hl, nums_one] at h
  rw [wordsA_crash st ws h0 hl]
  cases h1 : shortP (ws.getD 1 []) with
  | none => rw [h1] at h; cases h
  | some n =>
    rw [h1] at h
    have hb : -9223372036854775808 ≤ n ∧ n ≤ 9223372036854775807 := by
      unfold shortP at h1
      cases h2 : numP (ws.getD 1 []) with
      | none => rw [h2] at h1; cases h1
      | some v =>
        rw [h2] at h1
        simp only at h1
        split at h1
        · obtain rfl := Option.some.inj h1
          exact Lib.atoiAll_bounds (numP_some h2).2
        · cases h1
    exact ⟨n, (Option.some.inj h).symm, rfl, hb.1, hb.2⟩
theorem act_none_crash (st : St) (ws : List (List UInt8)) (h0 : ws.getD 0 [] = crashW) (hl : ws.length = 2) (h : nums (ws.drop 1) = none) : wordsA st ws = (st, badB) := by
  rw [one_of ws hl, nums_one] at h
  rw [wordsA_crash st ws h0 hl]
  cases h1 : shortP (ws.getD 1 []) with
  | none => rfl
  | some n => rw [h1] at h; cases h
set_option maxRecDepth 100000 in
set_option maxHeartbeats 8000000 in
theorem line_push {w : World} {B0 D : Nat} {F : Nat → Prop} {st : St} {j : Nat} (h : DeskS w B0 D F st) (inv : Inv st j) (hj : j ≤ 5000) (hB0 : 9 ≤ B0) (env : Env w) (hg : Handle w) (hbad : BadG w) (s : List UInt8) (hs : s.length ≤ 100000) (ws : List (List UInt8)) (hws : ws = splitSp s)
    (h0 : ws.getD 0 [] = pushW) : Calls Tryz.prog 35 #[.pointer (some ⟨D, 0, none⟩), .string ⟨s.toArray⟩] w fun e w' => ActRes B0 D F (wordsA st ws) w e w' := by
  have hpos : 0 < ws.length := by rw [hws]; exact splitSp_pos s
  have HWl := Lib.hid (word_len s hs ws hws)
  have hSplit := split_any ⟨s.toArray⟩ w env.max (by rw [mk_size]; omega)
  have e0 : (⟨s.toArray⟩ : ByteArray).data.toList = s := rfl
  rw [e0, ← hws] at hSplit
  have HSplit := Lib.hid hSplit
  obtain ⟨X, hX⟩ : ∃ X : ByteArray, X = ⟨s.toArray⟩ := ⟨_, rfl⟩
  rw [← hX] at HSplit ⊢
  have HH := Lib.hid h
  have HEnv := Lib.hid env
  have HG := Lib.hid hg
  have HBad := Lib.hid hbad
  have HInv := Lib.hid inv
  obtain ⟨nw, hnw⟩ : ∃ nw, nw = ws.length := ⟨_, rfl⟩
  have HNw := Lib.hid hnw
  have H0 := Lib.hid h0
  rw [← hnw] at HSplit hpos
  clear h env hg hbad inv hs hws hX hnw h0 hSplit e0
  go_enter Tryz.func35, Tryz.ntmps35
  go_wp2_with fail
  refine HSplit.out.mono ?_
  rintro e w1 ⟨g, rfl, hcs, hb1⟩
  have hc0 : w1.cell? ⟨g, 0, none⟩ = some (.string wPush) := by
    have h := hcs 0 hpos
    rw [H0.out] at h
    exact h
  have HWA := Lib.hid (ways_lookA w1 g wPush hc0 (wayV 2 77) true (by exact ⟨rfl, rfl⟩))
  have HWB := Lib.hid (ways_lookB w1 g wPush hc0 (wayV 2 77) true (by exact ⟨rfl, rfl⟩))
  have hz0 : (w1.alloc wayZ).cell? ⟨g, 0, none⟩ = some (.string wPush) := (((Below.refl w1.heap.size w1).alloc (Nat.le_refl _) wayZ).cell (p := ⟨g, 0, none⟩) (World.block_lt_of_cell? w1 _ hc0)).trans hc0
  have hz1 : (w1.alloc wayZ).drew.cell? ⟨g, 0, none⟩ = some (.string wPush) := hz0
  unfold wayZ at HWB hz0 hz1
  have HB1 := Lib.hid hb1
  have HCs := Lib.hid (fun i (hi : i < nw) => hcs i hi)
  have hposI : (0 : Int) < (nw : Int) := by omega
  clear hb1 hcs
  go_wp2_with fail
  go_cut [6, 7] (fun s6 s7 wx => ∃ bx, s6 = .pointer (some ⟨bx, 0, none⟩) ∧ s7 = .bool true ∧ WayAt w1 bx (.int .i64 2) (.func (.func 77) #[] #[]) wx)
  case first =>
    go_region_with (first
      | (go_at_call 52; with_reducible refine HWA.out.mono ?_; rintro e w2 ⟨b, rfl, hA⟩; have HA := Lib.hid hA; obtain ⟨_, qc, qc', ql, ql'⟩ := hA; unfold LookEq at ql ql'; unfold wayZ at qc' ql'; (try unfold wayV at ql ql'))
      | (go_at_call 52; with_reducible refine HWB.out.mono ?_; rintro e w2 ⟨b, rfl, hB⟩; have HB := Lib.hid hB; obtain ⟨_, qc, ql, qb⟩ := hB; unfold LookEq at ql; unfold wayZ at qb; (try unfold wayV at ql); have q0 : w2.cell? ⟨w1.heap.size, 0, none⟩ = some (.int .i64 0) := (by simp [World.cell?, qb]); have q1 : w2.cell? ⟨w1.heap.size, 1, none⟩ = some .nilFunc := (by simp [World.cell?, qb]); have q2 : w2.frozen? ⟨w1.heap.size, 0, none⟩ = false := (by simp [World.frozen?, qb]); have q3 : w2.frozen? ⟨w1.heap.size, 1, none⟩ = false := (by simp [World.frozen?, qb])))
    all_goals
      go_wp2_with fail
      go_meet
      first
        | exact ⟨_, rfl, rfl, heap_alloc_new w2 _, HA.out.low.alloc HA.out.low.size _⟩
        | exact ⟨_, rfl, rfl, way_store (W := w2.alloc wayZ) (heap_alloc_new w2 wayZ) HA.out.low.size (HA.out.low.alloc HA.out.low.size _) _ _⟩
        | exact ⟨_, rfl, rfl, way_store HB.out.box (Nat.le_refl _) HB.out.low _ _⟩
  case rest =>
    obtain ⟨bx, rfl, rfl, hbx, hb2⟩ := hcut
    have x0 : wc.cell? ⟨bx, 0, none⟩ = some (.int .i64 2) := by simp [World.cell?, hbx]
    have x1 : wc.cell? ⟨bx, 1, none⟩ = some (.func (.func 77) #[] #[]) := by simp [World.cell?, hbx]
    have HB2 : Hid (Below w.heap.size w wc) := Lib.hid (HB1.out.trans (hb2.mono HB1.out.size))
    have HCs2 : Hid (∀ i, i < nw → wc.cell? ⟨g, i, none⟩ = some (.string ⟨(ws.getD i []).toArray⟩)) := Lib.hid fun i hi => (hb2.cell (p := ⟨g, i, none⟩) (World.block_lt_of_cell? w1 _ (HCs.out i hi))).trans (HCs.out i hi)
    have Hbx := Lib.hid hbx
    clear hbx hb2
    by_cases hn : nw = 3
    · have HN := Lib.hid hn
      have hnums := numbers_any (ws.drop 1) (some ⟨g, 1, none⟩) 2 wc (HEnv.out.to HB2.out) (HBad.out.to HB2.out) (by
        refine .inr ⟨g, 1, rfl, fun i hi => ?_⟩
        have h := HCs2.out (1 + i) (by rw [List.length_drop] at hi; have := HNw.out; omega)
        rw [List.getD_eq_getElem?_getD, List.getElem?_drop, ← List.getD_eq_getElem?_getD]
        exact h)
        (by rw [List.length_drop]; have := HNw.out; omega) (fun i hi => by
          rw [List.getD_eq_getElem?_getD, List.getElem?_drop, ← List.getD_eq_getElem?_getD]
          have := HWl.out (1 + i); omega)
      have hdl : (ws.drop 1).length = 2 := by rw [List.length_drop]; have := HNw.out; omega
      rw [hdl] at hnums
      have HNums := Lib.hid hnums
      have HDl := Lib.hid hdl
      subst hn
      clear hnums hdl
      go_wp2_with fail
      refine HNums.out.mono ?_
      rintro e w3 ⟨hb3, ⟨l, al, cl, hl, rfl, hli⟩ | ⟨hno, p, rfl⟩⟩
      · have hll := nums_len _ _ hl
        rw [HDl.out] at hll
        have HB3 : Hid (Below w.heap.size w w3) := Lib.hid (HB2.out.trans (hb3.mono HB2.out.size))
        have y0 : w3.cell? ⟨bx, 0, none⟩ = some (.int .i64 2) := by rw [(hb3.cell (p := ⟨bx, 0, none⟩) (lt_of_block Hbx.out))]; exact x0
        have y1 : w3.cell? ⟨bx, 1, none⟩ = some (.func (.func 77) #[] #[]) := by rw [(hb3.cell (p := ⟨bx, 1, none⟩) (lt_of_block Hbx.out))]; exact x1
        have hS3 := HH.out.only (only_of_below HB3.out (fun _ => False)) (fun _ _ c => c) (fun c => c)
        have HHg : Hid (∀ w4, Only w3 w4 (fun k => F k ∨ k = D) → Handle w4) := Lib.hid fun w4 o => by
          have hb : Below B0 w3 w4 := o.below (by have := HH.out.low; have := hS3.lt; omega) (fun k c => by
            rcases c with c | c
            · exact (hS3.foot k c).1
            · rw [c]; exact HH.out.low)
          exact (HG.out.to HB3.out).below hb (by omega)
        obtain ⟨kk, ii, rfl, hact⟩ := act_push st ws H0.out (by have := HNw.out; have := HN.out; omega) l hl
        obtain ⟨R, hR⟩ : ∃ R, R = pushA st kk ii := ⟨_, rfl⟩
        have HAct : Hid (wordsA st ws = R) := Lib.hid (by rw [hR]; exact hact)
        obtain ⟨gl, rfl, hgl, hcl⟩ := hli (by simp)
        have k0 : w3.cell? ⟨gl, 0, none⟩ = some (.int .i64 kk) := hcl 0 (by simp)
        have k1 : w3.cell? ⟨gl, 0 + 1, none⟩ = some (.int .i64 ii) := hcl 1 (by simp)
        have hdo := hS3.push HInv.out hj (by omega) (HEnv.out.to HB3.out).tab gl 0 cl kk ii k0 k1
        rw [← hR] at hdo
        have HDo := Lib.hid hdo
        clear hcl k0 k1 hdo hact hR hl hll hgl hli
        clear hS3 hb3 x0 x1
        go_wp2_with fail
        refine HDo.out.mono ?_
        rintro e w4 ⟨out, err, F', rfl, hD4, hF4, o4, htold⟩
        have hgw := HHg.out w4 o4
        have hfin : ∀ w5, Below w4.heap.size w4 w5 → ActRes B0 D F R w (.returned (.string ⟨R.2.toArray⟩)) w5 := fun w5 b5 => act_on (.inr trivial) HB3.out hD4 hF4 o4 b5 _ rfl
        clear hD4 hF4 o4
        rcases htold with ⟨rfl, rfl⟩ | ⟨c, rfl, hans⟩ | ⟨p, rfl, hans⟩
        · have Hfin := Lib.hid (fun (w5 : World) (b5 : Below w4.heap.size w4 w5) => hfin w5 b5)
          clear hfin hgw
          go_wp2
          go_ret
          rw [HAct.out]
          exact Hfin.out _ (Below.refl _ _)
        · have Hfin := Lib.hid (fun (w5 : World) (b5 : Below w4.heap.size w4 w5) => hfin w5 b5)
          have HTold := Lib.hid (dtold_err c w4 hgw)
          have HAns := Lib.hid hans
          clear hfin hgw hans
          go_wp2_with fail
          refine HTold.out.mono ?_
          rintro e w5 ⟨rfl, b5⟩
          have HB5 := Lib.hid b5
          clear b5
          go_wp2
          go_ret
          rw [HAct.out, ← HAns.out]
          exact Hfin.out _ HB5.out
        · have Hfin := Lib.hid (fun (w5 : World) (b5 : Below w4.heap.size w4 w5) => hfin w5 b5)
          have HTold := Lib.hid (dtold_bad p w4 hgw)
          have HAns := Lib.hid hans
          clear hfin hgw hans
          go_wp2_with fail
          refine HTold.out.mono ?_
          rintro e w5 ⟨rfl, b5⟩
          have HB5 := Lib.hid b5
          clear b5
          go_wp2
          go_ret
          rw [HAct.out, ← HAns.out]
          exact Hfin.out _ HB5.out
      · have HAct : Hid (wordsA st ws = (st, badB)) := Lib.hid (by exact act_none_push st ws H0.out (by have := HNw.out; have := HN.out; omega) hno)
        have HB3 : Hid (Below w.heap.size w w3) := Lib.hid (HB2.out.trans (hb3.mono HB2.out.size))
        have HTold := Lib.hid (dtold_bad p w3 (HG.out.to HB3.out))
        clear hno hb3 x0 x1
        go_wp2_with fail
        refine HTold.out.mono ?_
        rintro e w5 ⟨rfl, b5⟩
        have HB5 : Hid (Below w.heap.size w w5) := Lib.hid (HB3.out.trans (b5.mono HB3.out.size))
        clear b5
        go_wp2
        go_ret
        rw [HAct.out]
        exact act_stay HH.out HB5.out _ rfl
    · have hnI : ((nw : Int) != 3) = true := by rw [bne_iff_ne]; omega
      have HAct : Hid (wordsA st ws = (st, badB)) := Lib.hid (words_len_push st ws H0.out (by rw [← HNw.out]; exact hn))
      clear hn
      go_wp2
      go_ret
      rw [HAct.out]
      exact act_stay HH.out HB2.out _ rfl
set_option maxRecDepth 100000 in
set_option maxHeartbeats 8000000 in
theorem line_crash {w : World} {B0 D : Nat} {F : Nat → Prop} {st : St} {j : Nat} (h : DeskS w B0 D F st) (inv : Inv st j) (hj : j ≤ 5000) (hB0 : 9 ≤ B0) (env : Env w) (hg : Handle w) (hbad : BadG w) (s : List UInt8) (hs : s.length ≤ 100000) (ws : List (List UInt8)) (hws : ws = splitSp s)
    (h0 : ws.getD 0 [] = crashW) : Calls Tryz.prog 35 #[.pointer (some ⟨D, 0, none⟩), .string ⟨s.toArray⟩] w fun e w' => ActRes B0 D F (wordsA st ws) w e w' := by
  have hpos : 0 < ws.length := by rw [hws]; exact splitSp_pos s
  have HWl := Lib.hid (word_len s hs ws hws)
  have hSplit := split_any ⟨s.toArray⟩ w env.max (by rw [mk_size]; omega)
  have e0 : (⟨s.toArray⟩ : ByteArray).data.toList = s := rfl
  rw [e0, ← hws] at hSplit
  have HSplit := Lib.hid hSplit
  obtain ⟨X, hX⟩ : ∃ X : ByteArray, X = ⟨s.toArray⟩ := ⟨_, rfl⟩
  rw [← hX] at HSplit ⊢
  have HH := Lib.hid h
  have HEnv := Lib.hid env
  have HG := Lib.hid hg
  have HBad := Lib.hid hbad
  have HInv := Lib.hid inv
  obtain ⟨nw, hnw⟩ : ∃ nw, nw = ws.length := ⟨_, rfl⟩
  have HNw := Lib.hid hnw
  have H0 := Lib.hid h0
  rw [← hnw] at HSplit hpos
  clear h env hg hbad inv hs hws hX hnw h0 hSplit e0
  go_enter Tryz.func35, Tryz.ntmps35
  go_wp2_with fail
  refine HSplit.out.mono ?_
  rintro e w1 ⟨g, rfl, hcs, hb1⟩
  have hc0 : w1.cell? ⟨g, 0, none⟩ = some (.string wCrash) := by
    have h := hcs 0 hpos
    rw [H0.out] at h
    exact h
  have HWA := Lib.hid (ways_lookA w1 g wCrash hc0 (wayV 1 80) true (by exact ⟨rfl, rfl⟩))
  have HWB := Lib.hid (ways_lookB w1 g wCrash hc0 (wayV 1 80) true (by exact ⟨rfl, rfl⟩))
  have hz0 : (w1.alloc wayZ).cell? ⟨g, 0, none⟩ = some (.string wCrash) := (((Below.refl w1.heap.size w1).alloc (Nat.le_refl _) wayZ).cell (p := ⟨g, 0, none⟩) (World.block_lt_of_cell? w1 _ hc0)).trans hc0
  have hz1 : (w1.alloc wayZ).drew.cell? ⟨g, 0, none⟩ = some (.string wCrash) := hz0
  unfold wayZ at HWB hz0 hz1
  have HB1 := Lib.hid hb1
  have HCs := Lib.hid (fun i (hi : i < nw) => hcs i hi)
  have hposI : (0 : Int) < (nw : Int) := by omega
  clear hb1 hcs
  go_wp2_with fail
  go_cut [6, 7] (fun s6 s7 wx => ∃ bx, s6 = .pointer (some ⟨bx, 0, none⟩) ∧ s7 = .bool true ∧ WayAt w1 bx (.int .i64 1) (.func (.func 80) #[] #[]) wx)
  case first =>
    go_region_with (first
      | (go_at_call 52; with_reducible refine HWA.out.mono ?_; rintro e w2 ⟨b, rfl, hA⟩; have HA := Lib.hid hA; obtain ⟨_, qc, qc', ql, ql'⟩ := hA; unfold LookEq at ql ql'; unfold wayZ at qc' ql'; (try unfold wayV at ql ql'))
      | (go_at_call 52; with_reducible refine HWB.out.mono ?_; rintro e w2 ⟨b, rfl, hB⟩; have HB := Lib.hid hB; obtain ⟨_, qc, ql, qb⟩ := hB; unfold LookEq at ql; unfold wayZ at qb; (try unfold wayV at ql); have q0 : w2.cell? ⟨w1.heap.size, 0, none⟩ = some (.int .i64 0) := (by simp [World.cell?, qb]); have q1 : w2.cell? ⟨w1.heap.size, 1, none⟩ = some .nilFunc := (by simp [World.cell?, qb]); have q2 : w2.frozen? ⟨w1.heap.size, 0, none⟩ = false := (by simp [World.frozen?, qb]); have q3 : w2.frozen? ⟨w1.heap.size, 1, none⟩ = false := (by simp [World.frozen?, qb])))
    all_goals
      go_wp2_with fail
      go_meet
      first
        | exact ⟨_, rfl, rfl, heap_alloc_new w2 _, HA.out.low.alloc HA.out.low.size _⟩
        | exact ⟨_, rfl, rfl, way_store (W := w2.alloc wayZ) (heap_alloc_new w2 wayZ) HA.out.low.size (HA.out.low.alloc HA.out.low.size _) _ _⟩
        | exact ⟨_, rfl, rfl, way_store HB.out.box (Nat.le_refl _) HB.out.low _ _⟩
  case rest =>
    obtain ⟨bx, rfl, rfl, hbx, hb2⟩ := hcut
    have x0 : wc.cell? ⟨bx, 0, none⟩ = some (.int .i64 1) := by simp [World.cell?, hbx]
    have x1 : wc.cell? ⟨bx, 1, none⟩ = some (.func (.func 80) #[] #[]) := by simp [World.cell?, hbx]
    have HB2 : Hid (Below w.heap.size w wc) := Lib.hid (HB1.out.trans (hb2.mono HB1.out.size))
    have HCs2 : Hid (∀ i, i < nw → wc.cell? ⟨g, i, none⟩ = some (.string ⟨(ws.getD i []).toArray⟩)) := Lib.hid fun i hi => (hb2.cell (p := ⟨g, i, none⟩) (World.block_lt_of_cell? w1 _ (HCs.out i hi))).trans (HCs.out i hi)
    have Hbx := Lib.hid hbx
    clear hbx hb2
    by_cases hn : nw = 2
    · have HN := Lib.hid hn
      have hnums := numbers_any (ws.drop 1) (some ⟨g, 1, none⟩) 1 wc (HEnv.out.to HB2.out) (HBad.out.to HB2.out) (by
        refine .inr ⟨g, 1, rfl, fun i hi => ?_⟩
        have h := HCs2.out (1 + i) (by rw [List.length_drop] at hi; have := HNw.out; omega)
        rw [List.getD_eq_getElem?_getD, List.getElem?_drop, ← List.getD_eq_getElem?_getD]
        exact h)
        (by rw [List.length_drop]; have := HNw.out; omega) (fun i hi => by
          rw [List.getD_eq_getElem?_getD, List.getElem?_drop, ← List.getD_eq_getElem?_getD]
          have := HWl.out (1 + i); omega)
      have hdl : (ws.drop 1).length = 1 := by rw [List.length_drop]; have := HNw.out; omega
      rw [hdl] at hnums
      have HNums := Lib.hid hnums
      have HDl := Lib.hid hdl
      subst hn
      clear hnums hdl
      go_wp2_with fail
      refine HNums.out.mono ?_
      rintro e w3 ⟨hb3, ⟨l, al, cl, hl, rfl, hli⟩ | ⟨hno, p, rfl⟩⟩
      · have hll := nums_len _ _ hl
        rw [HDl.out] at hll
        have HB3 : Hid (Below w.heap.size w w3) := Lib.hid (HB2.out.trans (hb3.mono HB2.out.size))
        have y0 : w3.cell? ⟨bx, 0, none⟩ = some (.int .i64 1) := by rw [(hb3.cell (p := ⟨bx, 0, none⟩) (lt_of_block Hbx.out))]; exact x0
        have y1 : w3.cell? ⟨bx, 1, none⟩ = some (.func (.func 80) #[] #[]) := by rw [(hb3.cell (p := ⟨bx, 1, none⟩) (lt_of_block Hbx.out))]; exact x1
        have hS3 := HH.out.only (only_of_below HB3.out (fun _ => False)) (fun _ _ c => c) (fun c => c)
        have HHg : Hid (∀ w4, Only w3 w4 (fun k => F k ∨ k = D) → Handle w4) := Lib.hid fun w4 o => by
          have hb : Below B0 w3 w4 := o.below (by have := HH.out.low; have := hS3.lt; omega) (fun k c => by
            rcases c with c | c
            · exact (hS3.foot k c).1
            · rw [c]; exact HH.out.low)
          exact (HG.out.to HB3.out).below hb (by omega)
        obtain ⟨n, rfl, hact, n0, n1⟩ := act_crash st ws H0.out (by have := HNw.out; have := HN.out; omega) l hl
        obtain ⟨R, hR⟩ : ∃ R, R = crashP st n := ⟨_, rfl⟩
        have HAct : Hid (wordsA st ws = R) := Lib.hid (by rw [hR]; exact hact)
        obtain ⟨gl, rfl, hgl, hcl⟩ := hli (by simp)
        have k0 : w3.cell? ⟨gl, 0, none⟩ = some (.int .i64 n) := hcl 0 (by simp)
        have hdo := hS3.crash HInv.out hj hB0 (HEnv.out.to HB3.out) (HBad.out.to HB3.out) gl 0 cl n n0 n1 k0 (fun c => by have := (HH.out.foot gl c).2; have := HB2.out.size; omega) (fun c => by have := HH.out.lt; have := HB2.out.size; omega)
        rw [← hR] at hdo
        have HDo := Lib.hid hdo
        clear hcl k0 hdo hact hR hl hll hgl hli n0 n1
        clear hS3 hb3 x0 x1
        go_wp2_with fail
        refine HDo.out.mono ?_
        rintro e w4 ⟨out, err, F', rfl, hD4, hF4, o4, htold⟩
        have hgw := HHg.out w4 o4
        have hfin : ∀ w5, Below w4.heap.size w4 w5 → ActRes B0 D F R w (.returned (.string ⟨R.2.toArray⟩)) w5 := fun w5 b5 => act_on (.inr trivial) HB3.out hD4 hF4 o4 b5 _ rfl
        clear hD4 hF4 o4
        rcases htold with ⟨rfl, rfl⟩ | ⟨c, rfl, hans⟩ | ⟨p, rfl, hans⟩
        · have Hfin := Lib.hid (fun (w5 : World) (b5 : Below w4.heap.size w4 w5) => hfin w5 b5)
          clear hfin hgw
          go_wp2
          go_ret
          rw [HAct.out]
          exact Hfin.out _ (Below.refl _ _)
        · have Hfin := Lib.hid (fun (w5 : World) (b5 : Below w4.heap.size w4 w5) => hfin w5 b5)
          have HTold := Lib.hid (dtold_err c w4 hgw)
          have HAns := Lib.hid hans
          clear hfin hgw hans
          go_wp2_with fail
          refine HTold.out.mono ?_
          rintro e w5 ⟨rfl, b5⟩
          have HB5 := Lib.hid b5
          clear b5
          go_wp2
          go_ret
          rw [HAct.out, ← HAns.out]
          exact Hfin.out _ HB5.out
        · have Hfin := Lib.hid (fun (w5 : World) (b5 : Below w4.heap.size w4 w5) => hfin w5 b5)
          have HTold := Lib.hid (dtold_bad p w4 hgw)
          have HAns := Lib.hid hans
          clear hfin hgw hans
          go_wp2_with fail
          refine HTold.out.mono ?_
          rintro e w5 ⟨rfl, b5⟩
          have HB5 := Lib.hid b5
          clear b5
          go_wp2
          go_ret
          rw [HAct.out, ← HAns.out]
          exact Hfin.out _ HB5.out
      · have HAct : Hid (wordsA st ws = (st, badB)) := Lib.hid (by exact act_none_crash st ws H0.out (by have := HNw.out; have := HN.out; omega) hno)
        have HB3 : Hid (Below w.heap.size w w3) := Lib.hid (HB2.out.trans (hb3.mono HB2.out.size))
        have HTold := Lib.hid (dtold_bad p w3 (HG.out.to HB3.out))
        clear hno hb3 x0 x1
        go_wp2_with fail
        refine HTold.out.mono ?_
        rintro e w5 ⟨rfl, b5⟩
        have HB5 : Hid (Below w.heap.size w w5) := Lib.hid (HB3.out.trans (b5.mono HB3.out.size))
        clear b5
        go_wp2
        go_ret
        rw [HAct.out]
        exact act_stay HH.out HB5.out _ rfl
    · have hnI : ((nw : Int) != 2) = true := by rw [bne_iff_ne]; omega
      have HAct : Hid (wordsA st ws = (st, badB)) := Lib.hid (words_len_crash st ws H0.out (by rw [← HNw.out]; exact hn))
      clear hn
      go_wp2
      go_ret
      rw [HAct.out]
      exact act_stay HH.out HB2.out _ rfl
set_option maxRecDepth 100000 in
set_option maxHeartbeats 8000000 in
theorem line_many {w : World} {B0 D : Nat} {F : Nat → Prop} {st : St} {j : Nat} (h : DeskS w B0 D F st) (inv : Inv st j) (hj : j ≤ 5000) (hB0 : 9 ≤ B0) (env : Env w) (hg : Handle w) (hbad : BadG w) (s : List UInt8) (hs : s.length ≤ 100000) (ws : List (List UInt8)) (hws : ws = splitSp s)
    (h0 : ws.getD 0 [] = manyW) : Calls Tryz.prog 35 #[.pointer (some ⟨D, 0, none⟩), .string ⟨s.toArray⟩] w fun e w' => ActRes B0 D F (wordsA st ws) w e w' := by
  have hpos : 0 < ws.length := by rw [hws]; exact splitSp_pos s
  have HWl := Lib.hid (word_len s hs ws hws)
  have hSplit := split_any ⟨s.toArray⟩ w env.max (by rw [mk_size]; omega)
  have e0 : (⟨s.toArray⟩ : ByteArray).data.toList = s := rfl
  rw [e0, ← hws] at hSplit
  have HSplit := Lib.hid hSplit
  obtain ⟨X, hX⟩ : ∃ X : ByteArray, X = ⟨s.toArray⟩ := ⟨_, rfl⟩
  rw [← hX] at HSplit ⊢
  have HH := Lib.hid h
  have HEnv := Lib.hid env
  have HG := Lib.hid hg
  have HBad := Lib.hid hbad
  have HInv := Lib.hid inv
  obtain ⟨nw, hnw⟩ : ∃ nw, nw = ws.length := ⟨_, rfl⟩
  have HNw := Lib.hid hnw
  have H0 := Lib.hid h0
  rw [← hnw] at HSplit hpos
  clear h env hg hbad inv hs hws hX hnw h0 hSplit e0
  go_enter Tryz.func35, Tryz.ntmps35
  go_wp2_with fail
  refine HSplit.out.mono ?_
  rintro e w1 ⟨g, rfl, hcs, hb1⟩
  have hc0 : w1.cell? ⟨g, 0, none⟩ = some (.string wMany) := by
    have h := hcs 0 hpos
    rw [H0.out] at h
    exact h
  have HWA := Lib.hid (ways_lookA w1 g wMany hc0 (wayV 0 79) true (by exact ⟨rfl, rfl⟩))
  have HWB := Lib.hid (ways_lookB w1 g wMany hc0 (wayV 0 79) true (by exact ⟨rfl, rfl⟩))
  have hz0 : (w1.alloc wayZ).cell? ⟨g, 0, none⟩ = some (.string wMany) := (((Below.refl w1.heap.size w1).alloc (Nat.le_refl _) wayZ).cell (p := ⟨g, 0, none⟩) (World.block_lt_of_cell? w1 _ hc0)).trans hc0
  have hz1 : (w1.alloc wayZ).drew.cell? ⟨g, 0, none⟩ = some (.string wMany) := hz0
  unfold wayZ at HWB hz0 hz1
  have HB1 := Lib.hid hb1
  have HCs := Lib.hid (fun i (hi : i < nw) => hcs i hi)
  have hposI : (0 : Int) < (nw : Int) := by omega
  clear hb1 hcs
  go_wp2_with fail
  go_cut [6, 7] (fun s6 s7 wx => ∃ bx, s6 = .pointer (some ⟨bx, 0, none⟩) ∧ s7 = .bool true ∧ WayAt w1 bx (.int .i64 0) (.func (.func 79) #[] #[]) wx)
  case first =>
    go_region_with (first
      | (go_at_call 52; with_reducible refine HWA.out.mono ?_; rintro e w2 ⟨b, rfl, hA⟩; have HA := Lib.hid hA; obtain ⟨_, qc, qc', ql, ql'⟩ := hA; unfold LookEq at ql ql'; unfold wayZ at qc' ql'; (try unfold wayV at ql ql'))
      | (go_at_call 52; with_reducible refine HWB.out.mono ?_; rintro e w2 ⟨b, rfl, hB⟩; have HB := Lib.hid hB; obtain ⟨_, qc, ql, qb⟩ := hB; unfold LookEq at ql; unfold wayZ at qb; (try unfold wayV at ql); have q0 : w2.cell? ⟨w1.heap.size, 0, none⟩ = some (.int .i64 0) := (by simp [World.cell?, qb]); have q1 : w2.cell? ⟨w1.heap.size, 1, none⟩ = some .nilFunc := (by simp [World.cell?, qb]); have q2 : w2.frozen? ⟨w1.heap.size, 0, none⟩ = false := (by simp [World.frozen?, qb]); have q3 : w2.frozen? ⟨w1.heap.size, 1, none⟩ = false := (by simp [World.frozen?, qb])))
    all_goals
      go_wp2_with fail
      go_meet
      first
        | exact ⟨_, rfl, rfl, heap_alloc_new w2 _, HA.out.low.alloc HA.out.low.size _⟩
        | exact ⟨_, rfl, rfl, way_store (W := w2.alloc wayZ) (heap_alloc_new w2 wayZ) HA.out.low.size (HA.out.low.alloc HA.out.low.size _) _ _⟩
        | exact ⟨_, rfl, rfl, way_store HB.out.box (Nat.le_refl _) HB.out.low _ _⟩
  case rest =>
    obtain ⟨bx, rfl, rfl, hbx, hb2⟩ := hcut
    have x0 : wc.cell? ⟨bx, 0, none⟩ = some (.int .i64 0) := by simp [World.cell?, hbx]
    have x1 : wc.cell? ⟨bx, 1, none⟩ = some (.func (.func 79) #[] #[]) := by simp [World.cell?, hbx]
    have HB2 : Hid (Below w.heap.size w wc) := Lib.hid (HB1.out.trans (hb2.mono HB1.out.size))
    have HCs2 : Hid (∀ i, i < nw → wc.cell? ⟨g, i, none⟩ = some (.string ⟨(ws.getD i []).toArray⟩)) := Lib.hid fun i hi => (hb2.cell (p := ⟨g, i, none⟩) (World.block_lt_of_cell? w1 _ (HCs.out i hi))).trans (HCs.out i hi)
    have Hbx := Lib.hid hbx
    clear hbx hb2
    by_cases hn : nw = 1
    · have HN := Lib.hid hn
      have hnums := numbers_any (ws.drop 1) (some ⟨g, 0, none⟩) 0 wc (HEnv.out.to HB2.out) (HBad.out.to HB2.out) (by
        exact .inl (List.drop_eq_nil_of_le (by have := HNw.out; omega)))
        (by rw [List.length_drop]; have := HNw.out; omega) (fun i hi => by
          rw [List.getD_eq_getElem?_getD, List.getElem?_drop, ← List.getD_eq_getElem?_getD]
          have := HWl.out (1 + i); omega)
      have hdl : (ws.drop 1).length = 0 := by rw [List.length_drop]; have := HNw.out; omega
      rw [hdl] at hnums
      have HNums := Lib.hid hnums
      have HDl := Lib.hid hdl
      subst hn
      clear hnums hdl
      go_wp2_with fail
      refine HNums.out.mono ?_
      rintro e w3 ⟨hb3, ⟨l, al, cl, hl, rfl, hli⟩ | ⟨hno, p, rfl⟩⟩
      · have hll := nums_len _ _ hl
        rw [HDl.out] at hll
        have HB3 : Hid (Below w.heap.size w w3) := Lib.hid (HB2.out.trans (hb3.mono HB2.out.size))
        have y0 : w3.cell? ⟨bx, 0, none⟩ = some (.int .i64 0) := by rw [(hb3.cell (p := ⟨bx, 0, none⟩) (lt_of_block Hbx.out))]; exact x0
        have y1 : w3.cell? ⟨bx, 1, none⟩ = some (.func (.func 79) #[] #[]) := by rw [(hb3.cell (p := ⟨bx, 1, none⟩) (lt_of_block Hbx.out))]; exact x1
        have hS3 := HH.out.only (only_of_below HB3.out (fun _ => False)) (fun _ _ c => c) (fun c => c)
        have HHg : Hid (∀ w4, Only w3 w4 (fun k => F k ∨ k = D) → Handle w4) := Lib.hid fun w4 o => by
          have hb : Below B0 w3 w4 := o.below (by have := HH.out.low; have := hS3.lt; omega) (fun k c => by
            rcases c with c | c
            · exact (hS3.foot k c).1
            · rw [c]; exact HH.out.low)
          exact (HG.out.to HB3.out).below hb (by omega)
        obtain rfl : l = [] := List.eq_nil_of_length_eq_zero hll
        obtain ⟨R, hR⟩ : ∃ R, R = (st, Lib.itoa (st.q.length : Nat)) := ⟨_, rfl⟩
        have HAct : Hid (wordsA st ws = R) := Lib.hid (by rw [hR]; exact wordsA_many st ws H0.out (by have := HNw.out; have := HN.out; omega))
        have hdo := hS3.many HInv.out hj (HEnv.out.to HB3.out).tab (.slice al ([] : List Int).length cl)
        rw [← hR] at hdo
        have HDo := Lib.hid hdo
        clear hdo hR hl hll hli
        clear hS3 hb3 x0 x1
        go_wp2_with fail
        refine HDo.out.mono ?_
        rintro e w4 ⟨out, err, F', rfl, hD4, hF4, o4, htold⟩
        have hgw := HHg.out w4 o4
        have hfin : ∀ w5, Below w4.heap.size w4 w5 → ActRes B0 D F R w (.returned (.string ⟨R.2.toArray⟩)) w5 := fun w5 b5 => act_on (.inr trivial) HB3.out hD4 hF4 o4 b5 _ rfl
        clear hD4 hF4 o4
        rcases htold with ⟨rfl, rfl⟩ | ⟨c, rfl, hans⟩ | ⟨p, rfl, hans⟩
        · have Hfin := Lib.hid (fun (w5 : World) (b5 : Below w4.heap.size w4 w5) => hfin w5 b5)
          clear hfin hgw
          go_wp2
          go_ret
          rw [HAct.out]
          exact Hfin.out _ (Below.refl _ _)
        · have Hfin := Lib.hid (fun (w5 : World) (b5 : Below w4.heap.size w4 w5) => hfin w5 b5)
          have HTold := Lib.hid (dtold_err c w4 hgw)
          have HAns := Lib.hid hans
          clear hfin hgw hans
          go_wp2_with fail
          refine HTold.out.mono ?_
          rintro e w5 ⟨rfl, b5⟩
          have HB5 := Lib.hid b5
          clear b5
          go_wp2
          go_ret
          rw [HAct.out, ← HAns.out]
          exact Hfin.out _ HB5.out
        · have Hfin := Lib.hid (fun (w5 : World) (b5 : Below w4.heap.size w4 w5) => hfin w5 b5)
          have HTold := Lib.hid (dtold_bad p w4 hgw)
          have HAns := Lib.hid hans
          clear hfin hgw hans
          go_wp2_with fail
          refine HTold.out.mono ?_
          rintro e w5 ⟨rfl, b5⟩
          have HB5 := Lib.hid b5
          clear b5
          go_wp2
          go_ret
          rw [HAct.out, ← HAns.out]
          exact Hfin.out _ HB5.out
      · have HAct : Hid (wordsA st ws = (st, badB)) := Lib.hid (by rw [List.drop_eq_nil_of_le (by have := HNw.out; have := HN.out; omega)] at hno; simp [nums] at hno)
        have HB3 : Hid (Below w.heap.size w w3) := Lib.hid (HB2.out.trans (hb3.mono HB2.out.size))
        have HTold := Lib.hid (dtold_bad p w3 (HG.out.to HB3.out))
        clear hno hb3 x0 x1
        go_wp2_with fail
        refine HTold.out.mono ?_
        rintro e w5 ⟨rfl, b5⟩
        have HB5 : Hid (Below w.heap.size w w5) := Lib.hid (HB3.out.trans (b5.mono HB3.out.size))
        clear b5
        go_wp2
        go_ret
        rw [HAct.out]
        exact act_stay HH.out HB5.out _ rfl
    · have hnI : ((nw : Int) != 1) = true := by rw [bne_iff_ne]; omega
      have HAct : Hid (wordsA st ws = (st, badB)) := Lib.hid (words_len_many st ws H0.out (by rw [← HNw.out]; exact hn))
      clear hn
      go_wp2
      go_ret
      rw [HAct.out]
      exact act_stay HH.out HB2.out _ rfl
set_option maxRecDepth 100000 in
set_option maxHeartbeats 8000000 in
theorem line_pop {w : World} {B0 D : Nat} {F : Nat → Prop} {st : St} {j : Nat} (h : DeskS w B0 D F st) (inv : Inv st j) (hj : j ≤ 5000) (hB0 : 9 ≤ B0) (env : Env w) (hg : Handle w) (hbad : BadG w) (s : List UInt8) (hs : s.length ≤ 100000) (ws : List (List UInt8)) (hws : ws = splitSp s)
    (h0 : ws.getD 0 [] = popB) : Calls Tryz.prog 35 #[.pointer (some ⟨D, 0, none⟩), .string ⟨s.toArray⟩] w fun e w' => ActRes B0 D F (wordsA st ws) w e w' := by
  have hpos : 0 < ws.length := by rw [hws]; exact splitSp_pos s
  have HWl := Lib.hid (word_len s hs ws hws)
  have hSplit := split_any ⟨s.toArray⟩ w env.max (by rw [mk_size]; omega)
  have e0 : (⟨s.toArray⟩ : ByteArray).data.toList = s := rfl
  rw [e0, ← hws] at hSplit
  have HSplit := Lib.hid hSplit
  obtain ⟨X, hX⟩ : ∃ X : ByteArray, X = ⟨s.toArray⟩ := ⟨_, rfl⟩
  rw [← hX] at HSplit ⊢
  have HH := Lib.hid h
  have HEnv := Lib.hid env
  have HG := Lib.hid hg
  have HBad := Lib.hid hbad
  have HInv := Lib.hid inv
  obtain ⟨nw, hnw⟩ : ∃ nw, nw = ws.length := ⟨_, rfl⟩
  have HNw := Lib.hid hnw
  have H0 := Lib.hid h0
  rw [← hnw] at HSplit hpos
  clear h env hg hbad inv hs hws hX hnw h0 hSplit e0
  go_enter Tryz.func35, Tryz.ntmps35
  go_wp2_with fail
  refine HSplit.out.mono ?_
  rintro e w1 ⟨g, rfl, hcs, hb1⟩
  have hc0 : w1.cell? ⟨g, 0, none⟩ = some (.string wPop) := by
    have h := hcs 0 hpos
    rw [H0.out] at h
    exact h
  have HWA := Lib.hid (ways_lookA w1 g wPop hc0 (wayV 0 78) true (by exact ⟨rfl, rfl⟩))
  have HWB := Lib.hid (ways_lookB w1 g wPop hc0 (wayV 0 78) true (by exact ⟨rfl, rfl⟩))
  have hz0 : (w1.alloc wayZ).cell? ⟨g, 0, none⟩ = some (.string wPop) := (((Below.refl w1.heap.size w1).alloc (Nat.le_refl _) wayZ).cell (p := ⟨g, 0, none⟩) (World.block_lt_of_cell? w1 _ hc0)).trans hc0
  have hz1 : (w1.alloc wayZ).drew.cell? ⟨g, 0, none⟩ = some (.string wPop) := hz0
  unfold wayZ at HWB hz0 hz1
  have HB1 := Lib.hid hb1
  have HCs := Lib.hid (fun i (hi : i < nw) => hcs i hi)
  have hposI : (0 : Int) < (nw : Int) := by omega
  clear hb1 hcs
  go_wp2_with fail
  go_cut [6, 7] (fun s6 s7 wx => ∃ bx, s6 = .pointer (some ⟨bx, 0, none⟩) ∧ s7 = .bool true ∧ WayAt w1 bx (.int .i64 0) (.func (.func 78) #[] #[]) wx)
  case first =>
    go_region_with (first
      | (go_at_call 52; with_reducible refine HWA.out.mono ?_; rintro e w2 ⟨b, rfl, hA⟩; have HA := Lib.hid hA; obtain ⟨_, qc, qc', ql, ql'⟩ := hA; unfold LookEq at ql ql'; unfold wayZ at qc' ql'; (try unfold wayV at ql ql'))
      | (go_at_call 52; with_reducible refine HWB.out.mono ?_; rintro e w2 ⟨b, rfl, hB⟩; have HB := Lib.hid hB; obtain ⟨_, qc, ql, qb⟩ := hB; unfold LookEq at ql; unfold wayZ at qb; (try unfold wayV at ql); have q0 : w2.cell? ⟨w1.heap.size, 0, none⟩ = some (.int .i64 0) := (by simp [World.cell?, qb]); have q1 : w2.cell? ⟨w1.heap.size, 1, none⟩ = some .nilFunc := (by simp [World.cell?, qb]); have q2 : w2.frozen? ⟨w1.heap.size, 0, none⟩ = false := (by simp [World.frozen?, qb]); have q3 : w2.frozen? ⟨w1.heap.size, 1, none⟩ = false := (by simp [World.frozen?, qb])))
    all_goals
      go_wp2_with fail
      go_meet
      first
        | exact ⟨_, rfl, rfl, heap_alloc_new w2 _, HA.out.low.alloc HA.out.low.size _⟩
        | exact ⟨_, rfl, rfl, way_store (W := w2.alloc wayZ) (heap_alloc_new w2 wayZ) HA.out.low.size (HA.out.low.alloc HA.out.low.size _) _ _⟩
        | exact ⟨_, rfl, rfl, way_store HB.out.box (Nat.le_refl _) HB.out.low _ _⟩
  case rest =>
    obtain ⟨bx, rfl, rfl, hbx, hb2⟩ := hcut
    have x0 : wc.cell? ⟨bx, 0, none⟩ = some (.int .i64 0) := by simp [World.cell?, hbx]
    have x1 : wc.cell? ⟨bx, 1, none⟩ = some (.func (.func 78) #[] #[]) := by simp [World.cell?, hbx]
    have HB2 : Hid (Below w.heap.size w wc) := Lib.hid (HB1.out.trans (hb2.mono HB1.out.size))
    have HCs2 : Hid (∀ i, i < nw → wc.cell? ⟨g, i, none⟩ = some (.string ⟨(ws.getD i []).toArray⟩)) := Lib.hid fun i hi => (hb2.cell (p := ⟨g, i, none⟩) (World.block_lt_of_cell? w1 _ (HCs.out i hi))).trans (HCs.out i hi)
    have Hbx := Lib.hid hbx
    clear hbx hb2
    by_cases hn : nw = 1
    · have HN := Lib.hid hn
      have hnums := numbers_any (ws.drop 1) (some ⟨g, 0, none⟩) 0 wc (HEnv.out.to HB2.out) (HBad.out.to HB2.out) (by
        exact .inl (List.drop_eq_nil_of_le (by have := HNw.out; omega)))
        (by rw [List.length_drop]; have := HNw.out; omega) (fun i hi => by
          rw [List.getD_eq_getElem?_getD, List.getElem?_drop, ← List.getD_eq_getElem?_getD]
          have := HWl.out (1 + i); omega)
      have hdl : (ws.drop 1).length = 0 := by rw [List.length_drop]; have := HNw.out; omega
      rw [hdl] at hnums
      have HNums := Lib.hid hnums
      have HDl := Lib.hid hdl
      subst hn
      clear hnums hdl
      go_wp2_with fail
      refine HNums.out.mono ?_
      rintro e w3 ⟨hb3, ⟨l, al, cl, hl, rfl, hli⟩ | ⟨hno, p, rfl⟩⟩
      · have hll := nums_len _ _ hl
        rw [HDl.out] at hll
        have HB3 : Hid (Below w.heap.size w w3) := Lib.hid (HB2.out.trans (hb3.mono HB2.out.size))
        have y0 : w3.cell? ⟨bx, 0, none⟩ = some (.int .i64 0) := by rw [(hb3.cell (p := ⟨bx, 0, none⟩) (lt_of_block Hbx.out))]; exact x0
        have y1 : w3.cell? ⟨bx, 1, none⟩ = some (.func (.func 78) #[] #[]) := by rw [(hb3.cell (p := ⟨bx, 1, none⟩) (lt_of_block Hbx.out))]; exact x1
        have hS3 := HH.out.only (only_of_below HB3.out (fun _ => False)) (fun _ _ c => c) (fun c => c)
        have HHg : Hid (∀ w4, Only w3 w4 (fun k => F k ∨ k = D) → Handle w4) := Lib.hid fun w4 o => by
          have hb : Below B0 w3 w4 := o.below (by have := HH.out.low; have := hS3.lt; omega) (fun k c => by
            rcases c with c | c
            · exact (hS3.foot k c).1
            · rw [c]; exact HH.out.low)
          exact (HG.out.to HB3.out).below hb (by omega)
        obtain rfl : l = [] := List.eq_nil_of_length_eq_zero hll
        obtain ⟨R, hR⟩ : ∃ R, R = popA st := ⟨_, rfl⟩
        have HAct : Hid (wordsA st ws = R) := Lib.hid (by rw [hR]; exact wordsA_pop st ws H0.out (by have := HNw.out; have := HN.out; omega))
        have hdo := hS3.pop HInv.out hj (by omega) (HEnv.out.to HB3.out).tab (.slice al ([] : List Int).length cl)
        rw [← hR] at hdo
        have HDo := Lib.hid hdo
        clear hdo hR hl hll hli
        clear hS3 hb3 x0 x1
        go_wp2_with fail
        refine HDo.out.mono ?_
        rintro e w4 ⟨out, err, F', rfl, hD4, hF4, o4, htold⟩
        have hgw := HHg.out w4 o4
        have hfin : ∀ w5, Below w4.heap.size w4 w5 → ActRes B0 D F R w (.returned (.string ⟨R.2.toArray⟩)) w5 := fun w5 b5 => act_on (.inr trivial) HB3.out hD4 hF4 o4 b5 _ rfl
        clear hD4 hF4 o4
        rcases htold with ⟨rfl, rfl⟩ | ⟨c, rfl, hans⟩ | ⟨p, rfl, hans⟩
        · have Hfin := Lib.hid (fun (w5 : World) (b5 : Below w4.heap.size w4 w5) => hfin w5 b5)
          clear hfin hgw
          go_wp2
          go_ret
          rw [HAct.out]
          exact Hfin.out _ (Below.refl _ _)
        · have Hfin := Lib.hid (fun (w5 : World) (b5 : Below w4.heap.size w4 w5) => hfin w5 b5)
          have HTold := Lib.hid (dtold_err c w4 hgw)
          have HAns := Lib.hid hans
          clear hfin hgw hans
          go_wp2_with fail
          refine HTold.out.mono ?_
          rintro e w5 ⟨rfl, b5⟩
          have HB5 := Lib.hid b5
          clear b5
          go_wp2
          go_ret
          rw [HAct.out, ← HAns.out]
          exact Hfin.out _ HB5.out
        · have Hfin := Lib.hid (fun (w5 : World) (b5 : Below w4.heap.size w4 w5) => hfin w5 b5)
          have HTold := Lib.hid (dtold_bad p w4 hgw)
          have HAns := Lib.hid hans
          clear hfin hgw hans
          go_wp2_with fail
          refine HTold.out.mono ?_
          rintro e w5 ⟨rfl, b5⟩
          have HB5 := Lib.hid b5
          clear b5
          go_wp2
          go_ret
          rw [HAct.out, ← HAns.out]
          exact Hfin.out _ HB5.out
      · have HAct : Hid (wordsA st ws = (st, badB)) := Lib.hid (by rw [List.drop_eq_nil_of_le (by have := HNw.out; have := HN.out; omega)] at hno; simp [nums] at hno)
        have HB3 : Hid (Below w.heap.size w w3) := Lib.hid (HB2.out.trans (hb3.mono HB2.out.size))
        have HTold := Lib.hid (dtold_bad p w3 (HG.out.to HB3.out))
        clear hno hb3 x0 x1
        go_wp2_with fail
        refine HTold.out.mono ?_
        rintro e w5 ⟨rfl, b5⟩
        have HB5 : Hid (Below w.heap.size w w5) := Lib.hid (HB3.out.trans (b5.mono HB3.out.size))
        clear b5
        go_wp2
        go_ret
        rw [HAct.out]
        exact act_stay HH.out HB5.out _ rfl
    · have hnI : ((nw : Int) != 1) = true := by rw [bne_iff_ne]; omega
      have HAct : Hid (wordsA st ws = (st, badB)) := Lib.hid (words_len_pop st ws H0.out (by rw [← HNw.out]; exact hn))
      clear hn
      go_wp2
      go_ret
      rw [HAct.out]
      exact act_stay HH.out HB2.out _ rfl
end Go.Proofs.YtfejlkgddnamoaaGreatDoor
