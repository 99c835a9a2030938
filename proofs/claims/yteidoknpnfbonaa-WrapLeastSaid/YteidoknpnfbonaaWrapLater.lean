/- WALK: the law WrapLater. -/
import Derived.Test.YteidoknpnfbonaaWrapLaws
namespace Go.Proofs.Yteidoknpnfbonaa
open Go Go.RowKit SharePlain PackPlain ShareLaw

theorem plan_later {times : List Int} {m : Nat} {l : List Pc} {b c : Int} (P : WrapPlain.Plan times m l b) (h : b ≤ c) : WrapPlain.Plan times m l c :=
  ⟨fun p hp => by obtain ⟨h1, h2, h3, h4, h5, h6, h7⟩ := P.fine p hp; exact ⟨h1, h2, h3, h4, h5, h6, by omega⟩, P.apart, P.all⟩
theorem plan_fair {times : List Int} {m : Nat} {l : List Pc} {b : Int} (P : WrapPlain.Plan times m l b) (hf : Fine times m) (hne : times ≠ []) : fairOf times m ≤ b := by
  have hB := P.bound (fun t ht => (hf.all t ht).1) hne
  have r1 := hf.r1
  have h1 : (times.sum + m - 1) / m ≤ b := ceil_le times.sum m (by omega) b hB.2
  have h2 : times.foldl max 0 ≤ b := by
    rcases (foldl_max times 0).2.2 with e | e
    · rw [e]
      obtain ⟨t, ts, rfl⟩ := List.exists_cons_of_ne_nil hne
      have := hB.1 t (by simp)
      have := (hf.all t (by simp)).1
      omega
    · exact hB.1 _ e
  unfold fairOf; omega
theorem plan_less {times : List Int} {m : Nat} {l : List Pc} {b c : Int} (P : WrapPlain.Plan times m l b) (i : Nat) (hi : i < l.length) : ¬ WrapPlain.Plan times m (l.take i ++ l.drop (i + 1)) c := by
  intro Q
  have el : l = l.take i ++ ([l[i]] ++ l.drop (i + 1)) := by
    rw [List.singleton_append, ← List.drop_eq_getElem_cons hi, List.take_append_drop]
  have hp := P.fine _ (List.getElem_mem hi)
  generalize l[i] = p at el hp
  obtain ⟨_, _, h3, h4, _, h6, _⟩ := hp
  have e1 := P.all p.j.toNat (by omega)
  have e2 := Q.all p.j.toNat (by omega)
  rw [el, done_append, done_append] at e1
  rw [done_append] at e2
  simp only [WrapPlain.done, WrapPlain.len] at e1
  rw [if_pos (by omega)] at e1
  omega
theorem PcOwn.cells {w : World} {B : Nat} {a : Option Addr} {cap : Nat} {l : List Pc} (h : PcOwn w B a cap l) (h0 : 0 < l.length) :
    ∃ g, a = some ⟨g, 0, none⟩ ∧ B ≤ g ∧ g < w.heap.size ∧ l.length ≤ cap ∧ ∀ j u, (flat l)[j]? = some u → w.cell? ⟨g, j, none⟩ = some u := by
  rcases h.2 with ⟨h', hz⟩ | ⟨g, cap', cur, h', hb, hg, hc, _, hs, ht⟩
  · omega
  · simp only [Value.slice.injEq, true_and] at h'
    obtain ⟨rfl, rfl⟩ := h'
    refine ⟨g, rfl, hb, lt_of_block hg, hc, fun j u hu => ?_⟩
    have hj : j < (flat l).length := by
      rcases Nat.lt_or_ge j (flat l).length with e | e
      · exact e
      · rw [List.getElem?_eq_none e] at hu; cases hu
    rw [flat_length] at hj
    rw [← ht, List.getElem?_take_of_lt hj] at hu
    simp only [Array.getElem?_toList] at hu
    simp [World.cell?, hg, hu]
theorem flat_drop (l : List Pc) (k j : Nat) (h : k ≤ l.length) : (flat (l.drop k))[j]? = (flat l)[k * 4 + j]? := by
  have e : flat l = flat (l.take k) ++ flat (l.drop k) := by rw [← flat_append, List.take_append_drop]
  have hl : (flat (l.take k)).length = k * 4 := by rw [flat_length, List.length_take, Nat.min_eq_left h]
  rw [e, List.getElem?_append_right (by omega), hl]
  congr 1; omega
theorem add_off (b o j : Nat) : (⟨b, o, none⟩ : Addr).add j = ⟨b, o + j, none⟩ := by
  unfold Addr.add; split <;> simp_all
theorem flat_take (l : List Pc) (k j : Nat) (u : Value) (h : (flat (l.take k))[j]? = some u) : (flat l)[j]? = some u := by
  have e : flat l = flat (l.take k) ++ flat (l.drop k) := by rw [← flat_append, List.take_append_drop]
  rw [e, List.getElem?_append_left, h]
  rcases Nat.lt_or_ge j (flat (l.take k)).length with e | e
  · exact e
  · rw [List.getElem?_eq_none e] at h; cases h

set_option maxRecDepth 100000 in
set_option maxHeartbeats 2000000 in
theorem WrapLater_walk (times : List Int) (mach by_ i : Int) (a : Option Addr) (cap : Nat) (w : World) (hx : Ints w a times) (hl : times.length ≤ 9223372036854775807) (hby : by_ ≤ 9223372036854775807) :
    Calls Try.prog 5 #[.slice a times.length cap, .int .i64 mach, .int .i64 by_, .int .i64 i] w fun e w' => e = .returned (.bool true) ∧ Below w.heap.size w w' := by
  by_cases hc : chk times mach = 0
  · have hf := chk_fine hc
    clear hc
    obtain ⟨m, rfl, hm1, hm6⟩ := hf.nat
    have hs := hf.short
    obtain ⟨i0, hi, hz0, hz1, hz2⟩ := info_parts pcInfo
    go_enter Try.func5, Try.ntmps5
    go_wp2_with fail
    refine (wrapFact_any _).mono ?_
    rintro e w0 ⟨rfl, b0⟩
    go_wp2_with fail
    refine (Make_yes times m a cap _ (hx.below b0) hf).mono ?_
    rintro e w2 ⟨a2, cap2, l, rfl, O, b2, hP, hn, h0, h1⟩
    have b02 := b0.trans (b2.mono b0.size)
    obtain ⟨hp, hlc⟩ := O.pcs
    go_wp2_with fail
    refine (Long_yes times m a cap _ (hx.below b02) hf).mono ?_
    rintro e w1 ⟨rfl, rfl⟩
    have hF := Fits_any times m l by_ a a2 cap cap2 _ (hx.below b02) hp hf (by omega) hby hlc
    have hF2 := Lib.hid (fun (l : List Pc) (h : l.length ≤ 60) (al : Option Addr) (capl : Nat) (w' : World) (hp : Pcs w' al l) (hx : Ints w' a times) (hc : l.length ≤ capl) => Fits_any times m l 16000 a al cap capl w' hx hp hf h (by decide) hc)
    have hfair := fun (hne : times ≠ []) (P : WrapPlain.Plan times m l by_) => plan_fair P hf hne
    have Hfair := Lib.hid hfair
    have HP := Lib.hid hP
    have HO := Lib.hid O
    clear hfair hP O
    generalize fairOf times m = L at HP Hfair ⊢
    go_wp2_with fail
    refine hF.mono ?_
    rintro e w3 ⟨is, rfl, h1', b3⟩
    have b03 := b02.trans (b3.mono b02.size)
    have his : is = (decide (L ≤ by_) || decide (times.length = 0)) := by
      rw [Bool.eq_iff_iff, h1', Bool.or_eq_true, decide_eq_true_eq, decide_eq_true_eq]
      constructor
      · intro P
        by_cases hne : times = []
        · exact .inr (by rw [hne]; rfl)
        · exact .inl (Hfair.out hne P)
      · rintro (h | h)
        · exact plan_later HP.out h
        · have ht : times = [] := List.eq_nil_of_length_eq_zero h
          have hl0 := h0 h
          subst ht; subst hl0
          exact plan_nil m by_
    clear h1' hF
    have hLc : (L ≤ by_ ∧ is = true) ∨ (by_ < L ∧ times.length = 0 ∧ is = true) ∨ (by_ < L ∧ 0 < times.length ∧ is = false) := by
      rcases Int.lt_or_le by_ L with h | h
      · by_cases h2 : times.length = 0
        · exact .inr (.inl ⟨h, h2, by rw [his]; simp [h2]⟩)
        · refine .inr (.inr ⟨h, by omega, ?_⟩)
          rw [his, Bool.or_eq_false_iff]
          exact ⟨by rw [decide_eq_false_iff_not]; omega, by rw [decide_eq_false_iff_not]; exact h2⟩
      · exact .inl ⟨h, by rw [his]; simp [h]⟩
    have H0 := Lib.hid h0
    clear his h0 h1 hp
    rcases Int.lt_or_le i 0 with hi0 | hi0
    · rcases hLc with ⟨c1, rfl⟩ | ⟨c1, c2, rfl⟩ | ⟨c1, c2, rfl⟩
      · go_wp2
        go_ret
        exact ⟨rfl, b03⟩
      · have c3 : (times.length : Int) = 0 := by omega
        have c4 : ((times.length : Int) == 0) = true := by rw [c3]; rfl
        clear c2 c3
        go_wp2
        go_ret
        exact ⟨rfl, b03⟩
      · have c4 : ((times.length : Int) == 0) = false := by rw [beq_eq_false_iff_ne]; omega
        go_wp2
        go_ret
        exact ⟨rfl, b03⟩
    · rcases Int.lt_or_le i l.length with hil | hil
      · obtain ⟨k, rfl⟩ : ∃ k : Nat, i = k := ⟨i.toNat, by omega⟩
        have hkl : k < l.length := by omega
        obtain ⟨g, rfl, hg1, hg2, _, hcells⟩ := HO.out.cells (by omega)
        have hc3 : ∀ j u, (flat l)[j]? = some u → w3.cell? ⟨g, j, none⟩ = some u := fun j u hu => by
          rw [b3.cell (p := ⟨g, j, none⟩) hg2]; exact hcells j u hu
        have hg3 : g < w3.heap.size := by have := b3.size; omega
        have hgS : w0.heap.size ≤ w3.heap.size := by have := b3.size; have := b2.size; omega
        have hgS' : w.heap.size ≤ w3.heap.size := b03.size
        have hts : 0 < times.length := by
          rcases Nat.eq_zero_or_pos times.length with e | e
          · have := H0.out e; rw [this] at hkl; simp at hkl
          · exact e
        have hcl : ((times.length : Int) == 0) = false := by rw [beq_eq_false_iff_ne]; omega
        have hn2 : l.length ≤ 60 := by omega
        have Hc3 := Lib.hid hc3
        clear hcells hc3
        have hk1 : (l.take k).length = k := by rw [List.length_take, Nat.min_eq_left (by omega)]
        have hk2 : (l.drop (k + 1)).length = l.length - (k + 1) := List.length_drop ..
        have Hk1 := Lib.hid hk1
        have Hk2 := Lib.hid hk2
        clear hk1 hk2
        have hLc2 : (L ≤ by_ ∧ is = true) ∨ (by_ < L ∧ is = false) := by
          rcases hLc with ⟨c1, c2⟩ | ⟨c1, c2, _⟩ | ⟨c1, _, c3⟩
          · exact .inl ⟨c1, c2⟩
          · omega
          · exact .inr ⟨c1, c3⟩
        clear hLc
        have hpost : Hid (∀ v4 w4, World.ownsRow w4 w3.heap.size 44 4 v4 (0 + k) ([] ++ flat (l.take k)) → w3.grownBy w4 (Value.slice none 0 0).ownBlock → ∃ a4 cap4, v4 = .slice a4 k cap4 ∧ PcOwn w4 w3.heap.size a4 cap4 (l.take k) ∧ (∀ j u, (flat l)[j]? = some u → w4.cell? ⟨g, j, none⟩ = some u) ∧ Below w3.heap.size w3 w4) := Lib.hid (by
          intro v4 w4 own4 gr4
          obtain ⟨a4, cap4, rfl, O4⟩ := PcOwn.of (l := l.take k) (by simpa using own4)
          refine ⟨a4, cap4, by rw [Hk1.out], O4, fun j u hu => ?_, (Below.refl _ _).grown gr4 (Nat.le_refl _) (fun kk e => by simp [Value.ownBlock] at e)⟩
          rw [World.cell?_of_block (a := ⟨g, j, none⟩) (gr4.block g hg3 (by simp [Value.ownBlock]))]; exact Hc3.out j u hu)
        have hpost2 : Hid (∀ a4 cap4 w4 v5 w5, PcOwn w4 w3.heap.size a4 cap4 (l.take k) → Below w3.heap.size w3 w4 → World.ownsRow w5 w3.heap.size 44 4 v5 (k + (l.length - (k + 1))) (flat (l.take k) ++ flat (l.drop (k + 1))) → w4.grownBy w5 (Value.slice a4 k cap4).ownBlock → ∃ a5 cap5, v5 = .slice a5 (l.length - 1) cap5 ∧ Hid (Calls Try.prog 12 #[.slice a times.length cap, .int .i64 m, .slice a5 (l.length - 1) cap5, .int .i64 16000] w5 fun e w' => FitsRes times m (l.take k ++ l.drop (k + 1)) 16000 w5 e w') ∧ Below w.heap.size w w5) := Lib.hid (by
          intro a4 cap4 w4 v5 w5 O4 b4 own5 gr5
          rw [← flat_append] at own5
          obtain ⟨a5, cap5, rfl, O5⟩ := PcOwn.of own5
          have hlen : (l.take k ++ l.drop (k + 1)).length = l.length - 1 := by rw [List.length_append, Hk1.out, Hk2.out]; omega
          obtain ⟨hp5, hc5⟩ := O5.pcs
          have b5 : Below w3.heap.size w3 w5 := b4.grown gr5 b4.size (fun kk e => by
            have := O4.lt kk (by rw [Hk1.out]; exact e); omega)
          have b05 := b03.trans (b5.mono hgS')
          refine ⟨a5, cap5, by rw [hlen], ?_, b05⟩
          have := hF2 _ (by rw [hlen]; omega) a5 cap5 w5 hp5 (hx.below b05) hc5
          rw [hlen] at this
          exact this)
        have Hnp := Lib.hid (plan_less (c := 16000) HP.out k hkl)
        have hz16 : (l.length : Int) - 1 = ((l.length - 1 : Nat) : Int) := by omega
        clear hz16
        rcases (by omega : cap2 = k + 1 ∨ k + 1 < cap2) with hce | hce
        · subst hce
          have hle : l.length = k + 1 := by omega
          have Hle0 := Lib.hid (show l.length - (k + 1) = 0 by omega)
          have Hdn := Lib.hid (show flat (l.drop (k + 1)) = [] by rw [List.drop_eq_nil_of_le (by omega)]; rfl)
          clear hle
          all_goals rcases hLc2 with ⟨c1, rfl⟩ | ⟨c1, rfl⟩
          all_goals
            go_wp2_with (first | (at_builtin; refine wpList_append_own _ rfl _ _ 23 rfl w3.heap.size 44 i0 (.agg #[.int .i64 0, .int .i64 0, .int .i64 0, .int .i64 0]) 4 32 Try.underlying23 hi hz0 hz1 hz2 rfl (by decide) (.slice none 0 0) 0 [] rfl (World.ownsRow_nil _ _ _ _) ⟨g, 0, none⟩ k _ (flat (l.take k)) rfl (by rw [flat_length, Hk1.out]) (fun j u hu => by rw [add_zero_off]; exact Hc3.out j u (flat_take l k j u hu)) (flat_one _) (by unfold maxLen; omega) (by omega) (Nat.le_refl _) ?_; intro v4 w4 own4 gr4 _; obtain ⟨a4, cap4, rfl, HO4, HC4, b4⟩ := hpost.out v4 w4 own4 gr4; have HO4' := Lib.hid HO4; have HC4' := Lib.hid HC4; clear HC4) | (at_builtin; refine wpList_append_own _ rfl _ _ 23 rfl w3.heap.size 44 i0 (.agg #[.int .i64 0, .int .i64 0, .int .i64 0, .int .i64 0]) 4 32 Try.underlying23 hi hz0 hz1 hz2 rfl (by decide) (.slice a4 k cap4) k (flat (l.take k)) rfl (by have h := HO4; unfold PcOwn at h; rw [Hk1.out] at h; exact h) ⟨g, 0, none⟩ 0 0 [] rfl rfl (fun j u hu => by cases hu) (by simp) (by unfold maxLen; omega) (by omega) b4.size ?_; intro v5 w5 own5 gr5 _; obtain ⟨a5, cap5, rfl, HF5, b5⟩ := hpost2.out a4 cap4 w4 v5 w5 HO4 b4 (by rw [Hle0.out, Hdn.out]; exact own5) gr5; clear HO4))
            refine HF5.out.mono ?_
            rintro e w6 ⟨is, rfl, h1', b6⟩
            have h1 : is = false := by
              cases is
              · rfl
              · exact absurd (h1'.1 rfl) Hnp.out
            clear h1'
            subst h1
            have b06 := b5.trans (b6.mono b5.size)
            go_wp2
            go_ret
            exact ⟨rfl, b06⟩
        · rcases hLc2 with ⟨c1, rfl⟩ | ⟨c1, rfl⟩
          all_goals
            go_wp2_with (first | (at_builtin; refine wpList_append_own _ rfl _ _ 23 rfl w3.heap.size 44 i0 (.agg #[.int .i64 0, .int .i64 0, .int .i64 0, .int .i64 0]) 4 32 Try.underlying23 hi hz0 hz1 hz2 rfl (by decide) (.slice none 0 0) 0 [] rfl (World.ownsRow_nil _ _ _ _) ⟨g, 0, none⟩ k _ (flat (l.take k)) rfl (by rw [flat_length, Hk1.out]) (fun j u hu => by rw [add_zero_off]; exact Hc3.out j u (flat_take l k j u hu)) (flat_one _) (by unfold maxLen; omega) (by omega) (Nat.le_refl _) ?_; intro v4 w4 own4 gr4 _; obtain ⟨a4, cap4, rfl, HO4, HC4, b4⟩ := hpost.out v4 w4 own4 gr4; have HO4' := Lib.hid HO4; have HC4' := Lib.hid HC4; clear HC4) | (at_builtin; refine wpList_append_own _ rfl _ _ 23 rfl w3.heap.size 44 i0 (.agg #[.int .i64 0, .int .i64 0, .int .i64 0, .int .i64 0]) 4 32 Try.underlying23 hi hz0 hz1 hz2 rfl (by decide) (.slice a4 k cap4) k (flat (l.take k)) rfl (by have h := HO4; unfold PcOwn at h; rw [Hk1.out] at h; exact h) ⟨g, (k + 1) * 4, none⟩ (l.length - (k + 1)) _ (flat (l.drop (k + 1))) rfl (by rw [flat_length, Hk2.out]) (fun j u hu => by rw [add_off]; exact HC4'.out _ u (by rw [← flat_drop l (k + 1) j (by omega)]; exact hu)) (flat_one _) (by unfold maxLen; omega) (by omega) b4.size ?_; intro v5 w5 own5 gr5 _; obtain ⟨a5, cap5, rfl, HF5, b5⟩ := hpost2.out a4 cap4 w4 v5 w5 HO4 b4 own5 gr5; clear HO4))
            refine HF5.out.mono ?_
            rintro e w6 ⟨is, rfl, h1', b6⟩
            have h1 : is = false := by
              cases is
              · rfl
              · exact absurd (h1'.1 rfl) Hnp.out
            clear h1'
            subst h1
            have b06 := b5.trans (b6.mono b5.size)
            go_wp2
            go_ret
            exact ⟨rfl, b06⟩
      · rcases hLc with ⟨c1, rfl⟩ | ⟨c1, c2, rfl⟩ | ⟨c1, c2, rfl⟩
        · go_wp2
          go_ret
          exact ⟨rfl, b03⟩
        · have c3 : (times.length : Int) = 0 := by omega
          have c4 : ((times.length : Int) == 0) = true := by rw [c3]; rfl
          clear c2 c3
          go_wp2
          go_ret
          exact ⟨rfl, b03⟩
        · have c4 : ((times.length : Int) == 0) = false := by rw [beq_eq_false_iff_ne]; omega
          go_wp2
          go_ret
          exact ⟨rfl, b03⟩
  · have Hc := Lib.hid hc
    clear hc
    go_enter Try.func5, Try.ntmps5
    go_wp2_with fail
    refine (wrapFact_any _).mono ?_
    rintro e w0 ⟨rfl, b0⟩
    go_wp2_with fail
    refine (Make_no times mach a cap _ (hx.below b0) hl Hc.out).mono ?_
    rintro e w1 ⟨rfl, rfl⟩
    go_wp2_with fail
    refine (Long_no times mach a cap _ (hx.below b0) hl Hc.out).mono ?_
    rintro e w1 ⟨rfl, rfl⟩
    go_wp2
    go_ret
    exact ⟨rfl, b0⟩
end Go.Proofs.Yteidoknpnfbonaa
