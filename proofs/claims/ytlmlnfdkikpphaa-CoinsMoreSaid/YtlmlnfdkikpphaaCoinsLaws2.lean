/- WALK: the law CoinsMore returns true and turns nothing that was there. -/
import Derived.Test.YtlmlnfdkikpphaaCoinsLaws
namespace Go.Proofs.Ytlmlnfdkikpphaa
open Go Go.RowKit CoinsPlain

theorem intInfo : (Try.prog.info? 3).map (fun i => (i.zero, i.size, i.bytes)) = some (some (.int .i64 0), 1, 8) := by kernel_rfl

set_option maxHeartbeats 1000000 in
theorem CoinsMore_walk (c : List Int) (a : Option Addr) (cap : Nat) (coin s o : Int) (w : World) (hx : Ints w a c)
    (hl : c.length ≤ 9223372036854775807) :
    Calls Try.prog 3 #[.slice a c.length cap, .int .i64 coin, .int .i64 s, .int .i64 o] w fun e w' => e = .returned (.bool true) ∧ Below w.heap.size w w' := by
  obtain ⟨i0, hi, hz0, hz1, hz2⟩ := info_parts intInfo
  by_cases hb : bothC c s = 0
  · obtain ⟨hf, s1, s2⟩ := both_fine hb
    have hfl := hf.short
    have hfn := hf.up.ne
    obtain ⟨S, rfl⟩ := Int.eq_ofNat_of_zero_le s1
    have HB := Lib.hid hb
    clear hb
    go_enter Try.func3, Try.ntmps3
    go_wp2_with fail
    refine (coinsFact_any _).mono ?_
    rintro e w0 ⟨rfl, b0⟩
    have hx0 := hx.below b0
    go_wp2_with fail
    refine (Best_yes c a cap S _ hx0 HB.out).mono ?_
    rintro e w1 ⟨g1, rfl, hg1, r1, b1⟩
    rw [Int.toNat_natCast] at r1 ⊢
    have b01 := b0.trans (b1.mono b0.size)
    have hx1 := hx.below b01
    obtain ⟨bb, off, rfl, hcell⟩ := hx1.open hfn
    have hcs := Ints.cellsAt hcell
    clear hcell
    have Hcs := Lib.hid hcs
    clear hcs
    go_wp2_with (first | (at_builtin; refine wpList_append_own _ rfl _ _ 22 rfl w1.heap.size 3 i0 (.int .i64 0) 1 8 Try.underlying22 hi hz0 hz1 hz2 rfl (by decide) (.slice none 0 0) 0 [] rfl (World.ownsRow_nil _ _ _ _) ⟨bb, off, none⟩ c.length cap (c.map (Value.int .i64)) rfl (by simp) Hcs.out (oneCells c) (by unfold maxLen; omega) (by omega) (Nat.le_refl _) ?_; intro v2 w2 own2 gr2 _; simp only [Nat.zero_add, List.nil_append] at own2) | (at_builtin; refine wpList_append_own _ rfl _ _ 22 rfl w1.heap.size 3 i0 (.int .i64 0) 1 8 Try.underlying22 hi hz0 hz1 hz2 rfl (by decide) v2 c.length (c.map (Value.int .i64)) rfl (own2.alloc _) ⟨w2.heap.size, 0, none⟩ 1 1 [.int .i64 coin] rfl rfl (cell_one_new _ _ _) (by simp [Value.oneCell']) (by unfold maxLen; omega) (by omega) (by have := gr2.size; simp; omega) ?_; intro v3 w3 own3 gr3 _))
    have b13 : Below w1.heap.size w1 w3 := by
      refine (((Below.refl _ w1).grown gr2 (Nat.le_refl _) (fun k hk => by simp [Value.ownBlock] at hk)).alloc gr2.size _).grown gr3 (by have := gr2.size; simp; omega) (fun k hk => (own2.lt k hk).1)
    obtain ⟨g3, cap3, hv, hg3, hgl3, hi3⟩ := owns_ints (xs := c ++ [coin]) (by simpa using own3) (by simp)
    rw [hv]
    have hl3 : (c ++ [coin]).length ≤ 9223372036854775807 := by simp; omega
    have hsub : ∀ n ∈ c, n ∈ c ++ [coin] := fun n hn => List.mem_append_left _ hn
    have Hsub := Lib.hid hsub
    clear hsub
    have hv3 : v3 = .slice (some ⟨g3, 0, none⟩) (c ++ [coin]).length cap3 := hv
    clear hv hv3
    generalize c ++ [coin] = c2 at hi3 hl3 Hsub ⊢
    have b03 := b01.trans (b13.mono b01.size)
    have hx3 := hx1.below b13
    have r13 := r1.below b13 r1.lt
    clear own2 gr2 own3 gr3
    by_cases hb3 : bothC c2 S = 0
    · obtain ⟨hf3, _, _⟩ := both_fine hb3
      have HB3 := Lib.hid hb3
      clear hb3
      go_wp2_with fail
      refine (Best_yes c2 _ cap3 S _ hi3 HB3.out).mono ?_
      rintro e w4 ⟨g4, rfl, hg4, r4, b4⟩
      rw [Int.toNat_natCast] at r4 ⊢
      have bz := b03.trans (b4.mono b03.size)
      have hxz := hx3.below b4
      have rz := r13.below b4 r13.lt
      have hmore := F_more hf.up.ok hf3.up.ok Hsub.out S
      go_wp2_with fail
      refine (SumB hf3 S (by omega) g4 _ _ r4).mono ?_
      rintro e w5 ⟨rfl, rfl⟩
      go_wp2_with fail
      refine (SumB hf S (by omega) g1 _ _ rz).mono ?_
      rintro e w5 ⟨rfl, rfl⟩
      -- the other sum
      by_cases ho : bothC c o = 0
      · obtain ⟨_, o1, o2⟩ := both_fine ho
        obtain ⟨O, rfl⟩ := Int.eq_ofNat_of_zero_le o1
        have HO := Lib.hid ho
        clear ho
        go_wp2_with fail
        refine (Best_yes c _ cap O _ hxz HO.out).mono ?_
        rintro e w5 ⟨g5, rfl, hg5, r5, b5⟩
        rw [Int.toNat_natCast] at r5 ⊢
        have bz5 := bz.trans (b5.mono bz.size)
        have hx5 := hxz.below b5
        have r15 := rz.below b5 rz.lt
        rcases Int.lt_or_le (300 - (S : Int)) O with hgt | hle
        · go_wp2
          go_ret
          exact ⟨rfl, bz5⟩
        · have HSO : Hid (bothC c ((S : Int) + (O : Int)) = 0) := by
            have := HB.out
            show bothC c ((S : Int) + (O : Int)) = 0
            unfold bothC at this ⊢
            by_cases h1 : chk c ≠ 0
            · rw [if_pos h1] at this; exact absurd this h1
            · rw [if_neg h1, if_neg (by omega)]
          have hadd := F_add hf.up.ok S O
          go_wp2_with fail
          refine (Best_yes c _ cap ((S : Int) + (O : Int)) _ hx5 HSO.out).mono ?_
          rintro e w6 ⟨g6, rfl, hg6, r6, b6⟩
          rw [show ((S : Int) + (O : Int)).toNat = S + O by omega] at r6 ⊢
          have bz6 := bz5.trans (b6.mono bz5.size)
          have r16 := r15.below b6 r15.lt
          have r56 := r5.below b6 r5.lt
          go_wp2_with fail
          refine (SumB hf (S + O) (by omega) g6 _ _ r6).mono ?_
          rintro e w7 ⟨rfl, rfl⟩
          go_wp2_with fail
          refine (SumB hf S (by omega) g1 _ _ r16).mono ?_
          rintro e w7 ⟨rfl, rfl⟩
          go_wp2_with fail
          refine (SumB hf O (by omega) g5 _ _ r56).mono ?_
          rintro e w7 ⟨rfl, rfl⟩
          have f1 := F_nonneg hf.up.ok S
          have f2 := F_nonneg hf.up.ok O
          have f3 := F_le_self c S
          have f4 := F_le_self c O
          go_wp2
          go_ret
          exact ⟨rfl, bz6⟩
      · have HO := Lib.hid ho
        clear ho
        go_wp2_with fail
        refine (Best_no c _ cap o _ hxz hl HO.out).mono ?_
        rintro e w5 ⟨rfl, rfl⟩
        go_wp2
        go_ret
        exact ⟨rfl, bz⟩
    · have HB3 := Lib.hid hb3
      clear hb3
      go_wp2_with fail
      refine (Best_no c2 _ cap3 S _ hi3 hl3 HB3.out).mono ?_
      rintro e w4 ⟨rfl, rfl⟩
      have bz := b03
      have hxz := hx3
      have rz := r13
      clear b03 hx3 r13
      -- the other sum
      by_cases ho : bothC c o = 0
      · obtain ⟨_, o1, o2⟩ := both_fine ho
        obtain ⟨O, rfl⟩ := Int.eq_ofNat_of_zero_le o1
        have HO := Lib.hid ho
        clear ho
        go_wp2_with fail
        refine (Best_yes c _ cap O _ hxz HO.out).mono ?_
        rintro e w5 ⟨g5, rfl, hg5, r5, b5⟩
        rw [Int.toNat_natCast] at r5 ⊢
        have bz5 := bz.trans (b5.mono bz.size)
        have hx5 := hxz.below b5
        have r15 := rz.below b5 rz.lt
        rcases Int.lt_or_le (300 - (S : Int)) O with hgt | hle
        · go_wp2
          go_ret
          exact ⟨rfl, bz5⟩
        · have HSO : Hid (bothC c ((S : Int) + (O : Int)) = 0) := by
            have := HB.out
            show bothC c ((S : Int) + (O : Int)) = 0
            unfold bothC at this ⊢
            by_cases h1 : chk c ≠ 0
            · rw [if_pos h1] at this; exact absurd this h1
            · rw [if_neg h1, if_neg (by omega)]
          have hadd := F_add hf.up.ok S O
          go_wp2_with fail
          refine (Best_yes c _ cap ((S : Int) + (O : Int)) _ hx5 HSO.out).mono ?_
          rintro e w6 ⟨g6, rfl, hg6, r6, b6⟩
          rw [show ((S : Int) + (O : Int)).toNat = S + O by omega] at r6 ⊢
          have bz6 := bz5.trans (b6.mono bz5.size)
          have r16 := r15.below b6 r15.lt
          have r56 := r5.below b6 r5.lt
          go_wp2_with fail
          refine (SumB hf (S + O) (by omega) g6 _ _ r6).mono ?_
          rintro e w7 ⟨rfl, rfl⟩
          go_wp2_with fail
          refine (SumB hf S (by omega) g1 _ _ r16).mono ?_
          rintro e w7 ⟨rfl, rfl⟩
          go_wp2_with fail
          refine (SumB hf O (by omega) g5 _ _ r56).mono ?_
          rintro e w7 ⟨rfl, rfl⟩
          have f1 := F_nonneg hf.up.ok S
          have f2 := F_nonneg hf.up.ok O
          have f3 := F_le_self c S
          have f4 := F_le_self c O
          go_wp2
          go_ret
          exact ⟨rfl, bz6⟩
      · have HO := Lib.hid ho
        clear ho
        go_wp2_with fail
        refine (Best_no c _ cap o _ hxz hl HO.out).mono ?_
        rintro e w5 ⟨rfl, rfl⟩
        go_wp2
        go_ret
        exact ⟨rfl, bz⟩
  · have HB := Lib.hid hb
    clear hb
    go_enter Try.func3, Try.ntmps3
    go_wp2_with fail
    refine (coinsFact_any _).mono ?_
    rintro e w0 ⟨rfl, b0⟩
    have hx0 := hx.below b0
    go_wp2_with fail
    refine (Best_no c a cap s _ hx0 hl HB.out).mono ?_
    rintro e w1 ⟨rfl, rfl⟩
    go_wp2
    go_ret
    exact ⟨rfl, b0⟩
end Go.Proofs.Ytlmlnfdkikpphaa
