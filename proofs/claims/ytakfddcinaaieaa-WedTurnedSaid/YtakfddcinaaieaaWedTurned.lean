/- PLAIN AND WALK: the law WedTurned. -/
import Derived.Test.YtakfddcinaaieaaWedFact
import Derived.Test.YtakfddcinaaieaaOwnRow
namespace Go.Proofs.Ytakfddcinaaieaa
open Go Go.RowKit WedPlain

/-! ### plain -/
theorem FineW.turn {A B : List (List Int)} (h : FineW A B) : FineW B A := ⟨by rw [h.same]; exact h.short, h.same.symm, by rw [h.same]; exact h.b, by rw [h.same]; exact h.a⟩
theorem stable_turn {n : Nat} {x y : Nat → Nat → Nat} {M M' : Nat → Nat} (S : Stable n x y M) (h : ∀ k, k < n → M' k < n ∧ M (M' k) = k) : Stable n y x M' := by
  refine ⟨fun k hk => (h k hk).1, fun i j hi hj e => ?_, fun i j hi hj ⟨h1, h2⟩ => ?_⟩
  · rw [← (h i hi).2, ← (h j hj).2, e]
  · obtain ⟨p1, p2⟩ := h j hj
    obtain ⟨q1, q2⟩ := h i hi
    refine S.none (M' j) (M' i) p1 q1 ⟨?_, ?_⟩
    · rw [q2, p2]; exact h2
    · rw [q2]; exact h1
/-- asked from the other side -/
def turnL (n : Nat) (m : List Int) : List Int := (List.range n).map fun i : Nat => ((m.idxOf (i : Int) : Nat) : Int)
theorem turnL_length (n : Nat) (m : List Int) : (turnL n m).length = n := by simp [turnL]
theorem turnL_getD {n : Nat} (m : List Int) {i : Nat} (h : i < n) : (turnL n m).getD i 0 = (m.idxOf (i : Int) : Nat) := by
  unfold turnL
  rw [List.getD_eq_getElem?_getD, List.getElem?_map, List.getElem?_range h]; rfl
theorem turnL_succ (n : Nat) (m : List Int) : turnL (n + 1) m = turnL n m ++ [((m.idxOf (n : Int) : Nat) : Int)] := by
  unfold turnL
  rw [List.range_succ, List.map_append]; rfl
theorem turnL_mN {n : Nat} (m : List Int) {i : Nat} (h : i < n) : mN (turnL n m) i = m.idxOf (i : Int) := by
  unfold mN
  rw [turnL_getD m h]; simp
theorem inv_of {n : Nat} {m : List Int} (h : AllOf n m) (k : Nat) (hk : k < n) : m.idxOf (k : Int) < n ∧ mN m (m.idxOf (k : Int)) = k := by
  obtain ⟨h1, h2⟩ := idx_at h hk
  refine ⟨h1, ?_⟩
  unfold mN
  rw [h2]; simp
theorem turnL_all {n : Nat} {m : List Int} (h : AllOf n m) : AllOf n (turnL n m) := by
  refine ⟨turnL_length _ _, fun x hx => ?_, ?_⟩
  · obtain ⟨i, hi, rfl⟩ := List.mem_map.1 hx
    have := (inv_of h i (List.mem_range.1 hi)).1
    omega
  · rw [List.nodup_iff_pairwise_ne, turnL, List.pairwise_map]
    refine List.Pairwise.imp_of_mem ?_ (List.pairwise_lt_range (n := n))
    intro i j hi hj hij e
    have e' : m.idxOf (i : Int) = m.idxOf (j : Int) := by omega
    have h1 := (inv_of h i (List.mem_range.1 hi)).2
    have h2 := (inv_of h j (List.mem_range.1 hj)).2
    rw [e'] at h1
    omega
theorem turnL_stable {n : Nat} {x y : Nat → Nat → Nat} {m : List Int} (h : AllOf n m) (S : Stable n x y (mN m)) : Stable n y x (mN (turnL n m)) :=
  stable_turn S fun k hk => by rw [turnL_mN m hk]; exact inv_of h k hk
theorem all_eq {n : Nat} {m m' : List Int} (h : AllOf n m) (h' : AllOf n m') (e : ∀ i, i < n → mN m i = mN m' i) : m = m' := by
  refine list_eq_of_getD m m' (by rw [h.len, h'.len]) (fun k hk => ?_)
  rw [h.len] at hk
  rw [(mN_cast h hk).1, (mN_cast h' hk).1, e k hk]
/-- where both ways agree there is one alone -/
theorem one_alone {A B : List (List Int)} (hf : FineW A B) {asked has asked' has'} (I : Inv A.length (aOf A) (xOf A) (xOf B) asked has []) (I' : Inv B.length (aOf B) (xOf B) (xOf A) asked' has' [])
    (hs : turnL A.length (mOf B asked') = mOf A asked) {m : List Int} (hm : AllOf A.length m) (S : Stable A.length (xOf A) (xOf B) (mN m)) : m = mOf A asked := by
  have L := lists_of hf.a rfl
  have hf' := hf.turn
  have L' := lists_of hf'.a rfl
  have hX := mOf_all hf I
  have hY := mOf_all hf' I'
  have hn := hf.same
  refine all_eq hm hX fun i hi => ?_
  have S' : Stable B.length (xOf B) (xOf A) (mN (turnL A.length m)) := by rw [hn]; exact turnL_stable hm S
  have e1 : mN (mOf A asked) i = (mOf B asked').idxOf (i : Int) := by rw [← hs, turnL_mN _ hi]
  obtain ⟨p1, p2⟩ := inv_of hY i (by omega)
  have hlt := (mN_cast hm hi).2
  have eM : m.idxOf ((mN m i : Nat) : Int) = i := at_idx hm hi (mN_cast hm hi).1
  have hb := I.best L S hi
  have hw := I'.worst L' S' (i := (mOf B asked').idxOf (i : Int)) (j := mN m i) p1 (by omega) (by rw [turnL_mN _ hlt, eM, ← mOf_mN B asked' p1, p2])
  rw [turnL_mN _ hlt, eM, ← e1, mOf_mN A asked hi] at hw
  rw [mOf_mN A asked hi]
  have e : xOf A i (mN m i) = xOf A i (outOf (aOf A) asked i) := by omega
  have hol := I.hold L hi
  exact xOf_inj hf.a rfl hi hlt hol.2.1 e
/-- do the first k agree? -/
def sameTo (X Y : List Int) (k : Nat) : Bool := decide (∀ j, j < k → ((Y.idxOf (j : Int) : Nat) : Int) = X.getD j 0)
theorem sameTo_succ (X Y : List Int) (k : Nat) : sameTo X Y (k + 1) = (sameTo X Y k && decide (((Y.idxOf (k : Int) : Nat) : Int) = X.getD k 0)) := by
  unfold sameTo
  rw [← Bool.decide_and]
  refine decide_eq_decide.2 ⟨fun h => ⟨fun j hj => h j (by omega), h k (by omega)⟩, fun h j hj => ?_⟩
  rcases Nat.lt_or_ge j k with c | c
  · exact h.1 j c
  · obtain rfl : j = k := by omega
    exact h.2
theorem sameTo_all {n : Nat} {X Y : List Int} (hX : X.length = n) (h : sameTo X Y n = true) : turnL n Y = X := by
  refine list_eq_of_getD _ _ (by rw [turnL_length, hX]) fun k hk => ?_
  rw [turnL_length] at hk
  rw [turnL_getD Y hk]
  exact of_decide_eq_true h k hk

/-! ### walk -/
theorem cell_one_newt (w : World) (v : Int) (t : TypeId) (g : Nat) (hg : g = w.heap.size) : ∀ j u, [Value.int .i64 v][j]? = some u → (w.alloc (.cells #[.int .i64 v] t)).cell? ((⟨g, 0, none⟩ : Addr).add j) = some u := by
  subst hg; exact cell_one_newg w v t _ rfl
theorem turn_post (Y : List Int) (k B : Nat) (p : Int) (az : Option Addr) (capz : Nat) (ws wr : World) (hB : B = ws.heap.size) (hbr : Below B ws wr) (ho : Own wr B 3 az capz (turnL k Y)) (hp : ((Y.idxOf (k : Int) : Nat) : Int) = p)
    (v2 : Value) (w4 : World) (own2 : w4.ownsRow B 3 1 v2 (k + 1) ((turnL k Y).map (Value.int .i64) ++ [.int .i64 p])) (gr2 : (wr.alloc (.cells #[.int .i64 p] 3)).grownBy w4 (Value.slice az k capz).ownBlock) :
    ∃ g3 c3, v2 = .slice (some ⟨g3, 0, none⟩) (k + 1) c3 ∧ Own w4 B 3 (some ⟨g3, 0, none⟩) c3 (turnL (k + 1) Y) ∧ w4.cell? ⟨g3, k, none⟩ = some (.int .i64 p) ∧ Below B ws w4 := by
  have e : (turnL (k + 1) Y).map (Value.int .i64) = (turnL k Y).map (Value.int .i64) ++ [.int .i64 p] := by rw [turnL_succ, List.map_append, hp]; rfl
  rw [← e] at own2
  obtain ⟨a2, c2, rfl, O⟩ := Own.of own2
  have hlen := turnL_length (k + 1) Y
  obtain ⟨g3, rfl, _, _, hc, _⟩ := O.open (by omega)
  have hc := hc k (by omega)
  rw [turnL_getD Y (Nat.lt_succ_self k), hp] at hc
  have hs := hbr.size
  refine ⟨g3, c2, by rw [hlen], O, hc, ?_⟩
  refine (hbr.alloc (by omega) _).grown gr2 (by simp; omega) fun j hj => ?_
  have h := ho.lt j
  rw [turnL_length] at h
  exact (h hj).1

set_option maxRecDepth 100000 in
set_option maxHeartbeats 4000000 in
theorem WedTurned_walk (A B : List (List Int)) (m : List Int) (a b c : Option Addr) (cap cap' cap2 : Nat) (w : World) (hx : Mat w a A) (hy : Mat w b B) (hl : A.length ≤ 9223372036854775807) (hl' : B.length ≤ 9223372036854775807) (hm : Ints w c m) (hl2 : m.length ≤ 9223372036854775807) :
    Calls Try.prog 3 #[.slice a A.length cap, .slice b B.length cap', .slice c m.length cap2] w fun e w' => e = .returned (.bool true) ∧ Below w.heap.size w w' := by
  obtain ⟨i0, hi, hz0, hz1, hz2⟩ := info_parts intInfo
  go_enter Try.func3, Try.ntmps3
  go_wp2_with fail
  refine (wedFact_any _).mono ?_
  rintro e w0 ⟨rfl, b0⟩
  go_wp2_with fail
  refine (Match_any A B a b cap cap' _ (hx.below b0) (hy.below b0) hl hl').mono ?_
  rintro e w1 ⟨⟨hf, asked, has, g, I, rfl, hI, hg⟩ | ⟨hf, k, hk, rfl⟩, b1⟩
  rotate_left
  · have b01 := b0.trans (b1.mono b0.size)
    have Hf := Lib.hid hf
    clear hf
    go_wp2_with fail
    refine (Match_any B A b a cap' cap _ (hy.below b01) (hx.below b01) hl' hl).mono ?_
    rintro e w2 ⟨⟨hF, _⟩ | ⟨_, k2, hk2, rfl⟩, b2⟩
    · exact absurd hF.turn Hf.out
    · have b02 := b01.trans (b2.mono b01.size)
      go_wp2
      go_ret
      exact ⟨rfl, b02⟩
  have b01 := b0.trans (b1.mono b0.size)
  have HM := Lib.hid (Match_any B A b a cap' cap _ (hy.below b01) (hx.below b01) hl' hl)
  have HI := Lib.hid hI
  have HInv := Lib.hid I
  have Hf := Lib.hid hf
  have hsh := hf.short
  clear hI I hf
  go_wp2_with fail
  refine HM.out.mono ?_
  rintro e w2 ⟨⟨_, asked', has', g', I', rfl, hJ, hg'⟩ | ⟨hno, _⟩, b2⟩
  rotate_left
  · exact absurd Hf.out.turn hno
  have b02 := b01.trans (b2.mono b01.size)
  have HJ := Lib.hid hJ
  have HI2 := Lib.hid (HI.out.below (b2.mono (Nat.le_refl _)))
  have HInv' := Lib.hid I'
  have HXall := Lib.hid (mOf_all Hf.out HInv.out)
  have HYall := Lib.hid (mOf_all Hf.out.turn HInv'.out)
  have HYst := Lib.hid (turnL_stable HYall.out (mOf_stable Hf.out.turn HInv'.out))
  have HOne := Lib.hid (fun hs m hm S => one_alone Hf.out HInv.out HInv'.out (m := m) hs hm S)
  have hHXl := mOf_length A asked
  have hHYl := mOf_length B asked'
  rw [Hf.out.same] at hHYl HYall HYst
  generalize mOf A asked = X at HI HI2 HXall HOne hHXl
  generalize mOf B asked' = Y at HJ HYall HYst HOne hHYl
  have HXl := Lib.hid hHXl
  have HYl := Lib.hid hHYl
  have Hx := Lib.hid (hx.below b02)
  have Hy := Lib.hid (hy.below b02)
  have Hm := Lib.hid (hm.below b02)
  have hBl := Hf.out.same
  have HBl := Lib.hid hBl
  clear hJ I' hx hy hm b0 b1 b2 b01 HM HI HInv HInv' hHXl hHYl
  rw [hBl]
  clear hBl
  have hne : ((A.length : Int) != (A.length : Int)) = false := by simp
  go_wp2
  obtain ⟨ws, hws⟩ : ∃ ws : World, ws = w2 := ⟨_, rfl⟩
  subst hws
  obtain ⟨q, hq⟩ : ∃ q, q = ws.heap.size := ⟨_, rfl⟩
  have Hq := Lib.hid hq
  have hbq : Below q ws ws := by rw [hq]; exact Below.refl _ _
  clear hq
  go_loopw [12, 13, 14] (fun z same i wr => ∃ (k : Nat) (az : Option Addr) (capz : Nat), i = .int .i64 k ∧ k ≤ A.length ∧ z = .slice az k capz ∧ same = .bool (sameTo X Y k) ∧ Own wr q 3 az capz (turnL k Y) ∧ Below q ws wr) (fun _ _ i _ => A.length - (intOf i).toNat)
  case atStart => exact ⟨0, none, 0, rfl, Nat.zero_le _, rfl, rfl, Own.nil _ _ _, hbq⟩
  case round =>
    obtain ⟨k, az, capz, rfl, hk, rfl, rfl, hown, hbr⟩ := hrel
    have hqs : q ≤ wr.heap.size := by have := hbr.size; have := Hq.out; omega
    have hbr' : Below ws.heap.size ws wr := by rw [← Hq.out]; exact hbr
    rcases Nat.lt_or_ge k A.length with hlt | hge
    · have hltI : (k : Int) < A.length := by omega
      have h1 := at_any Y k (some ⟨g', 0, none⟩) A.length wr (HJ.out.below hbr') (by have := HYl.out; omega)
      rw [HYl.out] at h1
      obtain ⟨bg, og, e1, hcx⟩ := (HI2.out.below hbr').open (by have := HXl.out; omega)
      simp only [Option.some.injEq, Addr.mk.injEq, and_true] at e1
      obtain ⟨rfl, rfl⟩ := e1
      have c4 := hcx k (by have := HXl.out; omega)
      rw [Nat.zero_add] at c4
      have hgs : g < wr.heap.size := World.block_lt_of_cell? wr _ c4
      have hpost := turn_post Y k q _ az capz ws wr Hq.out hbr hown rfl
      have hS := sameTo_succ X Y k
      generalize sameTo X Y k = sb at hS
      generalize ((Y.idxOf (k : Int) : Nat) : Int) = p at h1 hpost hS
      generalize X.getD k 0 = u at c4 hS
      have hgq : g < q := by
        have := Hq.out
        have := World.block_lt_of_cell? wr _ c4
        obtain ⟨b', o', e', hh⟩ := HI2.out.open (by have := HXl.out; omega)
        simp only [Option.some.injEq, Addr.mk.injEq, and_true] at e'
        obtain ⟨rfl, rfl⟩ := e'
        have := World.block_lt_of_cell? ws _ (hh k (by have := HXl.out; omega))
        show g < q
        simp at this; omega
      have c4s : ∀ w4, Below q ws w4 → w4.cell? ⟨g, k, none⟩ = some (.int .i64 u) := fun w4 h4 => by
        rw [h4.cell hgq, ← hbr.cell hgq]; exact c4
      have H1 := Lib.hid h1
      have Hown := Lib.hid hown
      have Hpost := Lib.hid hpost
      have HS := Lib.hid hS
      have Hc := Lib.hid c4s
      have Hbr := Lib.hid hbr
      clear h1 hown hpost hS c4s hcx c4 hbr'
      go_wp2_with fail
      refine H1.out.mono ?_
      rintro e w3 ⟨rfl, rfl⟩
      go_wp2_with (at_builtin; refine wpList_append_own _ rfl _ _ 23 rfl q 3 i0 (.int .i64 0) 1 8 Try.underlying23 hi hz0 hz1 hz2 rfl (by decide) (.slice az k capz) k ((turnL k Y).map (Value.int .i64)) rfl (World.ownsRow.alloc (by have h := Hown.out; unfold Own at h; rw [turnL_length] at h; exact h) _) ⟨_, 0, none⟩ 1 1 [.int .i64 p] rfl rfl (cell_one_newt _ _ _ _ (by simp)) (by simp [Value.oneCell']) (by unfold maxLen; omega) (by omega) (by simp; omega) ?_; intro v2 w4 own2 gr2 _; obtain ⟨g3, c3, rfl, HO3, c5, b4⟩ := Hpost.out v2 w4 own2 gr2)
      have c6 := Hc.out w4 b4
      have HO := Lib.hid HO3
      have hg3 : g3 < w4.heap.size := World.block_lt_of_cell? w4 _ c5
      clear HO3 own2 gr2
      rcases sb with _ | _
      · go_wp2
        go_quiet (fail)
        go_wp2
        go_roundw
        case rel => exact ⟨k + 1, _, _, by go_num, by omega, rfl, by rw [HS.out]; rfl, HO.out.drewN _, drewN_below b4 _⟩
        case measure => simp only [intOf]; omega
      · by_cases e : p = u
        · have t1 : (p == u) = true := by rw [e]; simp
          have E := Lib.hid e
          clear e
          go_wp2
          go_quiet (fail)
          go_wp2
          go_roundw
          case rel => exact ⟨k + 1, _, _, by go_num, by omega, rfl, by rw [HS.out, E.out]; simp, HO.out.drewN _, drewN_below b4 _⟩
          case measure => simp only [intOf]; omega
        · have t1 : (p == u) = false := by rw [beq_eq_false_iff_ne]; exact e
          have E := Lib.hid e
          clear e
          go_wp2
          go_quiet (fail)
          go_wp2
          go_roundw
          case rel => exact ⟨k + 1, _, _, by go_num, by omega, rfl, by rw [HS.out, decide_eq_false E.out]; simp, HO.out.drewN _, drewN_below b4 _⟩
          case measure => simp only [intOf]; omega
    · obtain rfl : A.length = k := by omega
      have h3 : decide (A.length < A.length) = false := by simp
      have hZ := turnL_length A.length Y
      have hS1 := Stable_any A B (turnL A.length Y) a b az cap cap' capz wr (Hx.out.below hbr') (Hy.out.below hbr') hown.ints hl hl' (by omega)
      rw [hZ, HBl.out] at hS1
      have HS1 := Lib.hid hS1
      have HX2 := Lib.hid (HI2.out.below hbr')
      have b0r := b02.trans (hbr'.mono b02.size)
      have Hxr := Lib.hid (Hx.out.below hbr')
      have Hyr := Lib.hid (Hy.out.below hbr')
      have Hmr := Lib.hid (Hm.out.below hbr')
      have Hsm := Lib.hid (sameTo_all (Y := Y) HXl.out)
      clear hZ hS1 hown hbr hbr'
      generalize sameTo X Y A.length = sb at Hsm
      go_wp2_with fail
      refine HS1.out.mono ?_
      rintro e w5 ⟨⟨_, _, ⟨rfl, _⟩ | ⟨i, k, g2, _, _, _, hi, hk, hbad, _⟩⟩ | ⟨hno, _⟩, b5⟩
      · have b05 := b0r.trans (b5.mono b0r.size)
        have hS2 := Stable_any A B m a b c cap cap' cap2 w5 (Hxr.out.below b5) (Hyr.out.below b5) (Hmr.out.below b5) hl hl' hl2
        rw [HBl.out] at hS2
        have HS2 := Lib.hid hS2
        clear hS2
        have HX5 := Lib.hid (HX2.out.below b5)
        have Hm5 := Lib.hid (Hmr.out.below b5)
        clear b5
        go_wp2_with fail
        refine HS2.out.mono ?_
        rintro e w6 ⟨⟨_, hall, ⟨rfl, hgood⟩ | ⟨i, k, g2, rfl, _, _, hi, hk, hbad, _⟩⟩ | ⟨_, k2, hk2, rfl⟩, b6⟩
        · have b06 := b05.trans (b6.mono b05.size)
          have hst := stable_of hall hgood
          rcases sb with _ | _
          · clear hall hgood hst
            go_wp2
            go_ret
            exact ⟨rfl, b06⟩
          · have hmX : m = X := HOne.out (Hsm.out rfl) m hall hst
            have hI := Ints_any m X c (some ⟨g, 0, none⟩) cap2 A.length w6 (Hm5.out.below b6) (HX5.out.below b6) hl2
            rw [HXl.out] at hI
            have hsB : sameB m X = true := by unfold sameB; exact decide_eq_true hmX
            rw [hsB] at hI
            have HIm := Lib.hid hI
            clear hall hgood hst hI hmX hsB
            go_wp2_with fail
            refine HIm.out.mono ?_
            rintro e w7 ⟨rfl, nq, rfl⟩
            go_wp2
            go_ret
            exact ⟨rfl, drewN_below b06 _⟩
        · have b06 := b05.trans (b6.mono b05.size)
          clear hall hbad
          go_wp2
          go_ret
          exact ⟨rfl, b06⟩
        · have b06 := b05.trans (b6.mono b05.size)
          go_wp2
          go_ret
          exact ⟨rfl, b06⟩
      · exact absurd hbad (bad_of (turnL_all HYall.out) HYst.out hi hk)
      · exact absurd ⟨Hf.out, turnL_all HYall.out⟩ hno
end Go.Proofs.Ytakfddcinaaieaa
