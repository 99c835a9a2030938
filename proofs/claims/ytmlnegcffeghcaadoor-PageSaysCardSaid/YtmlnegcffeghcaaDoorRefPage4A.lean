/- WALK: the document's Pages, kind 0. -/
import Derived.Test.YtmlnegcffeghcaaDoorRefPage3
namespace Go.Proofs.YtmlnegcffeghcaaDoor
open Go Go.RowKit PagePlain

set_option maxRecDepth 100000 in
set_option maxHeartbeats 4000000 in
theorem rpages_fifo (f : Nat) (l picks : List Int) (a ap : Option Addr) (cap capp : Nat) (w : World) (hx : Ints w a l) (hF : FineP f l) :
    Calls Tryd.prog 7 #[.int .i64 f, .slice a l.length cap, .int .i64 0, .slice ap picks.length capp] w fun e w' => PagesPost f l vFifo w e w' := by
  have h60 := hF.short
  obtain ⟨i0, hi, hz0, hz1, hz2⟩ := info_parts intInfo
  obtain ⟨j0, hj, hy0, hy1, hy2⟩ := info_parts boolInfo
  have f1 : f ≤ 8 := by have := hF.r2; omega
  have f0 : 1 ≤ f := by have := hF.r1; omega
  obtain ⟨H0, hH0⟩ : ∃ H0, H0 = vFifo := ⟨_, rfl⟩
  obtain ⟨H, hH⟩ : ∃ H, H = rhd f l H0 := ⟨_, rfl⟩
  have HH := Lib.hid hH
  have HH0 := Lib.hid hH0
  have Hlen := Lib.hid (show ∀ t, (H t).length ≤ f from fun t => by rw [hH, hH0]; exact rhd_len f l _ (fun t r h h0 => h0) f0 t)
  have Hx := Lib.hid hx
  clear hF hx hH hH0
  rw [← HH0.out]
  go_enter Tryd.func7, Tryd.ntmps7
  go_wp2
  go_loopw [9, 10, 11] (fun out hand i wr => ∃ (k : Nat) (ao : Option Addr) (co : Nat) (ah : Option Addr) (ch : Nat), i = .int .i64 k ∧ k ≤ l.length ∧ out = .slice ao k co ∧ hand = .slice ah (rhd f l H0 k).length ch ∧ PgRel (bitL l H k) (rhd f l H0 k) ao co ah ch w wr) (fun _ _ i _ => l.length - (intOf i).toNat)
  case atStart => exact ⟨0, none, 0, none, 0, rfl, Nat.zero_le _, rfl, rfl, PgRel.start w⟩
  case round =>
    rename World => wk
    obtain ⟨k, ao, co, ah, ch, rfl, hk, rfl, rfl, R⟩ := hrel
    have hrl := Hlen.out k
    rw [HH.out] at hrl
    have HR := Lib.hid R
    clear R
    rcases Nat.lt_or_ge k l.length with hlt | hge
    · have hkI : (k : Int) < l.length := by omega
      obtain ⟨r, hr⟩ : ∃ r, r = rhd f l H0 k := ⟨_, rfl⟩
      rw [← hr] at hrl HR ⊢
      have HRr := Lib.hid hr
      clear hr
      obtain ⟨b, off, rfl, hc⟩ := (Hx.out.below HR.out.bel).open (by omega)
      have ck := hc k hlt
      clear hc
      obtain ⟨p, hp⟩ : ∃ p, p = pg l k := ⟨_, rfl⟩
      rw [show l.getD k 0 = p from hp.symm] at ck
      have Hp := Lib.hid hp
      clear hp
      by_cases hin : p ∈ r
      · have Hbit := Lib.hid (show decide (pg l k ∉ H k) = false by rw [HH.out, ← HRr.out, ← Hp.out]; exact decide_eq_false (fun c => c hin))
        have HE := Lib.hid (show rhd f l H0 (k + 1) = r by rw [rhd, ← HRr.out, ← Hp.out]; unfold rnxt; rw [if_pos hin])
        have hpl : Calls Tryd.prog 17 #[.slice ah r.length ch, .int .i64 p] wk fun e w' => e = .returned (.int .i64 (r.idxOf p : Nat)) ∧ wk = w' := (rpl r p ah ch _ HR.out.hand.ints (by omega)).mono fun e w' ⟨h1, h2⟩ => ⟨by rw [h1]; unfold idxI; rw [if_pos hin], h2⟩
        have HPl := Lib.hid hpl
        clear hpl hin
        generalize r.idxOf p = n at HPl
        have hn0 : decide ((n : Int) < 0) = false := decide_eq_false (by omega)
        go_wp2_with fail
        refine HPl.out.mono ?_
        rintro e w2 ⟨rfl, rfl⟩
        go_wp2_with (at_builtin; refine wpList_append_own_at _ rfl (.tmp 35) (.tmp 37) 28 rfl w.heap.size 4 j0 (.bool false) 1 1 Tryd.underlying28 hj hy0 hy1 hy2 rfl (by decide) (.slice ao k co) k ((bitL l H k).map Value.bool) rfl (World.ownsRow.alloc (HR.out.cellsO k (bitL_length l H k).symm) _) ⟨_, 0, none⟩ 1 1 [.bool false] rfl rfl (cell_one_bool _ _ _ _ (by simp)) (by simp [Value.oneCell']) (by unfold maxLen; omega) (by omega) (by have := HR.out.bel.size; simp; omega) ?_; intro v2 w4 own2 gr2 _ at2; obtain ⟨a3, c3, rfl, HO3⟩ := HR.out.bit false k (bitL_length l H k).symm v2 w4 own2 gr2 at2; have HR4 := Lib.hid (show PgRel (bitL l H (k + 1)) r a3 c3 ah ch w w4 by rw [bitL_succ, Hbit.out]; exact HO3); clear HO3 own2 gr2 at2)
        go_roundw
        case rel => exact ⟨k + 1, a3, c3, ah, ch, by go_num, by omega, rfl, by rw [HE.out], by rw [HE.out]; exact HR4.out⟩
        case measure => simp only [intOf]; omega
      · have Hbit := Lib.hid (show decide (pg l k ∉ H k) = true by rw [HH.out, ← HRr.out, ← Hp.out]; exact decide_eq_true hin)
        have HNin := Lib.hid (show pg l k ∉ rhd f l H0 k by rw [← HRr.out, ← Hp.out]; exact hin)
        have hpl : Calls Tryd.prog 17 #[.slice ah r.length ch, .int .i64 p] wk fun e w' => e = .returned (.int .i64 (-1)) ∧ wk = w' := (rpl r p ah ch _ HR.out.hand.ints (by omega)).mono fun e w' ⟨h1, h2⟩ => ⟨by rw [h1]; unfold idxI; rw [if_neg hin], h2⟩
        have HPl := Lib.hid hpl
        clear hpl hin
        rcases Nat.lt_or_ge r.length f with hrf | hrf
        · have hne : ((r.length : Int) == (f : Int)) = false := by rw [beq_eq_false_iff_ne]; omega
          have HE := Lib.hid (show rhd f l H0 (k + 1) = r ++ [p] by rw [rhd]; unfold rnxt; rw [if_neg HNin.out, ← HRr.out, ← Hp.out, if_neg (by omega)])
          go_wp2_with fail
          refine HPl.out.mono ?_
          rintro e w2 ⟨rfl, rfl⟩
          have Hck := Lib.hid (fun w4 (hb : Below w.heap.size w w4) => show w4.cell? ⟨b, off + k, none⟩ = some (.int .i64 p) by
            rcases Hx.out.below hb with h | ⟨b', o', e1, h⟩
            · rw [h] at hlt; simp at hlt
            · simp only [Option.some.injEq, Addr.mk.injEq, and_true] at e1
              obtain ⟨rfl, rfl⟩ := e1
              rw [h k hlt, Hp.out]; rfl)
          go_wp2_with (first | ((at_builtin; refine wpList_append_own_at _ rfl (.tmp 35) (.tmp 37) 28 rfl w.heap.size 4 j0 (.bool false) 1 1 Tryd.underlying28 hj hy0 hy1 hy2 rfl (by decide) (.slice ao k co) k ((bitL l H k).map Value.bool) rfl (World.ownsRow.alloc (HR.out.cellsO k (bitL_length l H k).symm) _) ⟨_, 0, none⟩ 1 1 [.bool true] rfl rfl (cell_one_bool _ _ _ _ (by simp)) (by simp [Value.oneCell']) (by unfold maxLen; omega) (by omega) (by have := HR.out.bel.size; simp; omega) ?_; intro v2 w4 own2 gr2 _ at2; obtain ⟨a3, c3, rfl, HO3⟩ := HR.out.bit true k (bitL_length l H k).symm v2 w4 own2 gr2 at2; have HR4 := Lib.hid (show PgRel (bitL l H (k + 1)) r a3 c3 ah ch w w4 by rw [bitL_succ, Hbit.out]; exact HO3); clear HO3 own2 gr2 at2); have HR5 := HR4; have ck4 := Hck.out w4 HR4.out.bel; have HRW := Lib.hid (show w4.ownsRow w.heap.size 3 1 (.slice ah r.length ch) r.length (r.map (Value.int .i64)) from HR5.out.hand)) | (at_builtin; refine wpList_append_own_at _ rfl (.tmp 147) (.tmp 152) 22 rfl w.heap.size 3 i0 (.int .i64 0) 1 8 Tryd.underlying22 hi hz0 hz1 hz2 rfl (by decide) (.slice ah r.length ch) r.length ((r).map (Value.int .i64)) rfl (World.ownsRow.alloc HRW.out _) ⟨_, 0, none⟩ 1 1 [.int .i64 p] rfl rfl (cell_one_newg _ _ _ _ (by simp)) (by simp [Value.oneCell']) (by unfold maxLen; omega) (by omega) (by have := HR5.out.bel.size; simp; omega) ?_; intro v6 w6 own6 gr6 _ at6; obtain ⟨a7, c7, rfl, HO7⟩ := HR5.out.page p v6 w6 own6 gr6 at6; have HR7 := Lib.hid HO7; clear HO7 own6 gr6 at6))
          go_roundw
          case rel => exact ⟨k + 1, a3, c3, a7, c7, by go_num, by omega, rfl, by rw [HE.out]; simp, by rw [HE.out]; exact HR7.out⟩
          case measure => simp only [intOf]; omega
        · have hlen : r.length = f := by omega
          have hne : ((r.length : Int) == (f : Int)) = true := by rw [beq_iff_eq]; omega
          obtain ⟨g, rfl, _, _, _, _⟩ := HR.out.hand.open (by omega)
          obtain ⟨hroom, hcm⟩ := HR.out.hand.room
          have HLen := Lib.hid (show (rhd f l H0 k).length = f by rw [← HRr.out]; exact hlen)
          clear hlen
          go_wp2_with fail
          refine HPl.out.mono ?_
          rintro e w2 ⟨rfl, rfl⟩
          have Hck := Lib.hid (fun w4 (hb : Below w.heap.size w w4) => show w4.cell? ⟨b, off + k, none⟩ = some (.int .i64 p) by
            rcases Hx.out.below hb with h | ⟨b', o', e1, h⟩
            · rw [h] at hlt; simp at hlt
            · simp only [Option.some.injEq, Addr.mk.injEq, and_true] at e1
              obtain ⟨rfl, rfl⟩ := e1
              rw [h k hlt, Hp.out]; rfl)
          go_wp2_with (at_builtin; refine wpList_append_own_at _ rfl (.tmp 35) (.tmp 37) 28 rfl w.heap.size 4 j0 (.bool false) 1 1 Tryd.underlying28 hj hy0 hy1 hy2 rfl (by decide) (.slice ao k co) k ((bitL l H k).map Value.bool) rfl (World.ownsRow.alloc (HR.out.cellsO k (bitL_length l H k).symm) _) ⟨_, 0, none⟩ 1 1 [.bool true] rfl rfl (cell_one_bool _ _ _ _ (by simp)) (by simp [Value.oneCell']) (by unfold maxLen; omega) (by omega) (by have := HR.out.bel.size; simp; omega) ?_; intro v2 w4 own2 gr2 _ at2; obtain ⟨a3, c3, rfl, HO3⟩ := HR.out.bit true k (bitL_length l H k).symm v2 w4 own2 gr2 at2; have HR4 := Lib.hid (show PgRel (bitL l H (k + 1)) r a3 c3 (some ⟨g, 0, none⟩) ch w w4 by rw [bitL_succ, Hbit.out]; exact HO3); clear HO3 own2 gr2 at2)
          go_loopw [13, 14] (fun kv jv wx => ∃ kk : Nat, kv = .int .i64 kk ∧ kk = H0 k r ∧ kk < r.length ∧ jv = .int .i64 0 ∧ wx = w4) (fun _ _ _ => 0)
          case atStart => exact ⟨0, rfl, by rw [HH0.out]; rfl, by omega, rfl, rfl⟩
          case round =>
            obtain ⟨kk, rfl, hK, hkk, rfl, hw⟩ := hrel
            subst hw
            have HK := Lib.hid hK
            clear hK
            have HRv := Lib.hid (HR4.out)
            have ck4 := Hck.out _ HRv.out.bel
            obtain ⟨wv, hwv⟩ : ∃ wv, wv = wr := ⟨_, rfl⟩
            rw [← hwv] at HRv ck4 ⊢
            clear hwv
            have hkk1 : (kk : Int) + 1 ≤ r.length := by omega
            have hkkI : (kk : Int) < r.length := by omega
            have hkkr : kk ≤ ch := by omega
            have HE := Lib.hid (show rhd f l H0 (k + 1) = r.eraseIdx kk ++ [p] by rw [rhd]; unfold rnxt; rw [if_neg HNin.out, if_pos HLen.out, ← HRr.out, ← Hp.out, ← HK.out])
            have F1 := HRv.out.hand.from 0 kk (by omega)
            rw [List.drop_zero] at F1
            have HF1 := Lib.hid F1
            have HF2 := Lib.hid (HRv.out.hand.from (kk + 1) (r.length - (kk + 1)) (by omega))
            have HP := Lib.hid (fun w1 w2 v1 v2 => @rest_post r kk wv w1 w2 v1 v2 hkk)
            have hgl : g < wv.heap.size := (HRv.out.hand.lt g rfl).2
            have HL1 := Lib.hid (show ((r.take kk).map (Value.int .i64)).length = kk * 1 by rw [List.length_map, List.length_take, Nat.min_eq_left (by omega), Nat.mul_one])
            have HL2 := Lib.hid (show (((r.drop (kk + 1)).take (r.length - (kk + 1))).map (Value.int .i64)).length = (r.length - (kk + 1)) * 1 by rw [List.length_map, List.length_take, List.length_drop, Nat.min_self, Nat.mul_one])
            have hle : (r.eraseIdx kk).length ≤ 8 := by rw [List.length_eraseIdx, if_pos hkk]; omega
            clear F1
            rcases Nat.lt_or_ge (kk + 1) ch with hc | hc
            · have HC2 : Hid (∀ w1, wv.grownBy w1 (Value.slice none 0 0).ownBlock → ∀ j u, (((r.drop (kk + 1)).take (r.length - (kk + 1))).map (Value.int .i64))[j]? = some u → w1.cell? ((⟨g, kk + 1, none⟩ : Addr).add j) = some u) := Lib.hid (fun w1 g1 j u hu => by
                have h2 := HF2.out j u hu
                have e3 : (⟨g, kk + 1, none⟩ : Addr).add j = ⟨g, kk + 1 + j, none⟩ := by unfold Addr.add; split <;> simp_all
                rw [e3] at h2 ⊢
                exact (World.cell?_of_block (a := ⟨g, kk + 1 + j, none⟩) (g1.block g hgl (by simp [Value.ownBlock]))).trans h2)
              go_wp2_with (first | (at_builtin; refine wpList_append_own _ rfl (.tmp 135) (.tmp 138) 22 rfl wv.heap.size 3 i0 (.int .i64 0) 1 8 Tryd.underlying22 hi hz0 hz1 hz2 rfl (by decide) (.slice none 0 0) 0 [] rfl (World.ownsRow_nil _ _ _ _) ⟨g, 0, none⟩ kk ch ((r.take kk).map (Value.int .i64)) rfl HL1.out HF1.out (one_cellsI _) (by unfold maxLen; omega) (by omega) (Nat.le_refl _) ?_; intro v1 w1 o1 g1 _; have HO1 := Lib.hid o1; have HG1 := Lib.hid g1; clear o1 g1) | (at_builtin; refine wpList_append_own _ rfl (.tmp 140) (.tmp 144) 22 rfl wv.heap.size 3 i0 (.int .i64 0) 1 8 Tryd.underlying22 hi hz0 hz1 hz2 rfl (by decide) v1 (0 + kk) ([] ++ (r.take kk).map (Value.int .i64)) rfl HO1.out ⟨g, kk + 1, none⟩ (r.length - (kk + 1)) _ (((r.drop (kk + 1)).take (r.length - (kk + 1))).map (Value.int .i64)) rfl HL2.out (HC2.out w1 HG1.out) (one_cellsI _) (by unfold maxLen; omega) (by omega) HG1.out.size ?_; intro v2 w2 o2 g2 _; obtain ⟨a5, c5, rfl, hO5, hB5⟩ := HP.out w1 w2 v1 v2 HO1.out HG1.out o2 g2; have HR5 := Lib.hid (HRv.out.fresh hO5 hB5); have ck6 := Hck.out w2 HR5.out.bel; have HRW := Lib.hid (show w2.ownsRow w.heap.size 3 1 (.slice a5 (r.eraseIdx kk).length c5) (r.eraseIdx kk).length ((r.eraseIdx kk).map (Value.int .i64)) from HR5.out.hand); clear hO5 hB5 o2 g2) | (at_builtin; refine wpList_append_own_at _ rfl (.tmp 147) (.tmp 152) 22 rfl w.heap.size 3 i0 (.int .i64 0) 1 8 Tryd.underlying22 hi hz0 hz1 hz2 rfl (by decide) (.slice a5 (r.eraseIdx kk).length c5) (r.eraseIdx kk).length ((r.eraseIdx kk).map (Value.int .i64)) rfl (World.ownsRow.alloc HRW.out _) ⟨_, 0, none⟩ 1 1 [.int .i64 p] rfl rfl (cell_one_newg _ _ _ _ (by simp)) (by simp [Value.oneCell']) (by unfold maxLen; omega) (by omega) (by have := HR5.out.bel.size; simp; omega) ?_; intro v6 w6 own6 gr6 _ at6; obtain ⟨a7, c7, rfl, HO7⟩ := HR5.out.page p v6 w6 own6 gr6 at6; have HR7 := Lib.hid HO7; clear HO7 own6 gr6 at6))
              go_roundw
              case rel => exact ⟨k + 1, a3, c3, a7, c7, by go_num, by omega, rfl, by rw [HE.out]; simp, by rw [HE.out]; exact HR7.out⟩
              case measure => simp only [intOf]; omega
            · obtain rfl : ch = kk + 1 := by omega
              have hle0 : r.length = kk + 1 := by omega
              have Hle0 := Lib.hid (show r.length - (kk + 1) = 0 by omega)
              have Hd0 := Lib.hid (show (((r.drop (kk + 1)).take (r.length - (kk + 1))).map (Value.int .i64)) = [] by rw [Hle0.out]; rfl)
              clear hle0
              go_wp2_with (first | (at_builtin; refine wpList_append_own _ rfl (.tmp 135) (.tmp 138) 22 rfl wv.heap.size 3 i0 (.int .i64 0) 1 8 Tryd.underlying22 hi hz0 hz1 hz2 rfl (by decide) (.slice none 0 0) 0 [] rfl (World.ownsRow_nil _ _ _ _) ⟨g, 0, none⟩ kk (kk + 1) ((r.take kk).map (Value.int .i64)) rfl HL1.out HF1.out (one_cellsI _) (by unfold maxLen; omega) (by omega) (Nat.le_refl _) ?_; intro v1 w1 o1 g1 _; have HO1 := Lib.hid o1; have HG1 := Lib.hid g1; clear o1 g1) | (at_builtin; refine wpList_append_own _ rfl (.tmp 140) (.tmp 144) 22 rfl wv.heap.size 3 i0 (.int .i64 0) 1 8 Tryd.underlying22 hi hz0 hz1 hz2 rfl (by decide) v1 (0 + kk) ([] ++ (r.take kk).map (Value.int .i64)) rfl HO1.out ⟨g, 0, none⟩ 0 0 [] rfl rfl (fun j u hu => by cases hu) (by simp) (by unfold maxLen; omega) (by omega) HG1.out.size ?_; intro v2 w2 o2 g2 _; obtain ⟨a5, c5, rfl, hO5, hB5⟩ := HP.out w1 w2 v1 v2 HO1.out HG1.out (by rw [Hd0.out, Hle0.out]; exact o2) g2; have HR5 := Lib.hid (HRv.out.fresh hO5 hB5); have ck6 := Hck.out w2 HR5.out.bel; have HRW := Lib.hid (show w2.ownsRow w.heap.size 3 1 (.slice a5 (r.eraseIdx kk).length c5) (r.eraseIdx kk).length ((r.eraseIdx kk).map (Value.int .i64)) from HR5.out.hand); clear hO5 hB5 o2 g2) | (at_builtin; refine wpList_append_own_at _ rfl (.tmp 147) (.tmp 152) 22 rfl w.heap.size 3 i0 (.int .i64 0) 1 8 Tryd.underlying22 hi hz0 hz1 hz2 rfl (by decide) (.slice a5 (r.eraseIdx kk).length c5) (r.eraseIdx kk).length ((r.eraseIdx kk).map (Value.int .i64)) rfl (World.ownsRow.alloc HRW.out _) ⟨_, 0, none⟩ 1 1 [.int .i64 p] rfl rfl (cell_one_newg _ _ _ _ (by simp)) (by simp [Value.oneCell']) (by unfold maxLen; omega) (by omega) (by have := HR5.out.bel.size; simp; omega) ?_; intro v6 w6 own6 gr6 _ at6; obtain ⟨a7, c7, rfl, HO7⟩ := HR5.out.page p v6 w6 own6 gr6 at6; have HR7 := Lib.hid HO7; clear HO7 own6 gr6 at6))
              go_roundw
              case rel => exact ⟨k + 1, a3, c3, a7, c7, by go_num, by omega, rfl, by rw [HE.out]; simp, by rw [HE.out]; exact HR7.out⟩
              case measure => simp only [intOf]; omega

    · obtain rfl : l.length = k := by omega
      have h3 : decide (l.length < l.length) = false := by simp
      go_wp2
      go_ret
      exact ⟨ao, co, rfl, by have := HR.out.out; rw [bitL_full, HH.out] at this; exact this, HR.out.bel⟩
end Go.Proofs.YtmlnegcffeghcaaDoor
