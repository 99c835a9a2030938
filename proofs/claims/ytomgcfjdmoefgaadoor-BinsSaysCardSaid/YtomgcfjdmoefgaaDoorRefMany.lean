/- PLAIN AND WALKS: the document's Many; the law BinsSays. -/
import Derived.Test.YtomgcfjdmoefgaaDoorRefBins
import Derived.Test.YtomgcfjdmoefgaaDoorErr
namespace Go.Proofs.YtomgcfjdmoefgaaDoor
open Go Go.RowKit BinsPlain PackPlain SortPlain TwicePlain

/-! ### plain -/
theorem sub_lenG {α : Type} [DecidableEq α] : ∀ {a b : List α}, a.Nodup → (∀ x ∈ a, x ∈ b) → a.length ≤ b.length
  | [], _, _, _ => Nat.zero_le _
  | x :: a, b, hn, hs => by
    rw [List.nodup_cons] at hn
    have hx := hs x (by simp)
    have h1 : (b.erase x).length = b.length - 1 := List.length_erase_of_mem hx
    have h2 := sub_lenG (b := b.erase x) hn.2 (fun y hy => (List.mem_erase_of_ne (fun c => hn.1 (by rw [← c]; exact hy))).2 (hs y (by simp [hy])))
    have h3 : 0 < b.length := List.length_pos_of_mem hx
    rw [List.length_cons]; omega
theorem loadA_pos (sizes ins : List Int) (hs : ∀ n ∈ sizes, 1 ≤ n) (c : Int) : ∀ k, k ≤ sizes.length → (0 < loadA sizes ins k c ↔ c ∈ keysA ins k) := by
  intro k
  induction k with
  | zero => intro _; simp [loadA, revRange, loadL, keysA, keysL]
  | succ k ih =>
    intro hk
    have ih := ih (by omega)
    have hnn := (loadA_nonneg sizes ins hs k c (by omega)).1
    have hsk := hs _ (getD_mem sizes k (by omega))
    rw [loadA_succ, mem_keysA]
    rw [mem_keysA] at ih
    constructor
    · intro h
      by_cases e : ins.getD k 0 = c
      · exact ⟨k, Nat.lt_succ_self _, e⟩
      · rw [if_neg e, Int.add_zero] at h
        obtain ⟨i, hi, he⟩ := ih.1 h
        exact ⟨i, by omega, he⟩
    · rintro ⟨i, hi, he⟩
      by_cases e : ins.getD k 0 = c
      · rw [if_pos e]; omega
      · rw [if_neg e, Int.add_zero]
        refine ih.2 ⟨i, ?_, he⟩
        rcases Nat.lt_or_ge i k with d | d
        · exact d
        · obtain rfl : i = k := by omega
          exact absurd he e
/-- so many boxes below k are used -/
def cntB (sizes ins : List Int) : Nat → Nat
  | 0 => 0
  | k + 1 => cntB sizes ins k + if 0 < loadA sizes ins sizes.length k then 1 else 0
theorem cntB_le (sizes ins : List Int) : ∀ k, cntB sizes ins k ≤ k
  | 0 => Nat.le_refl _
  | k + 1 => by
    have := cntB_le sizes ins k
    simp only [cntB]; split <;> omega
theorem cntB_filter (sizes ins : List Int) : ∀ k, cntB sizes ins k = (((List.range k).filter fun c : Nat => decide (0 < loadA sizes ins sizes.length c)).map fun c : Nat => (c : Int)).length
  | 0 => rfl
  | k + 1 => by
    rw [List.range_succ, List.filter_append, List.map_append, List.length_append, ← cntB_filter sizes ins k]
    simp only [cntB]
    by_cases h : 0 < loadA sizes ins sizes.length k
    · rw [if_pos h]; simp [h]
    · rw [if_neg h]; simp [h]
theorem cntB_keys {sizes ins : List Int} (hs : ∀ n ∈ sizes, 1 ≤ n) (hb : ∀ i, i < sizes.length → 0 ≤ ins.getD i 0 ∧ ins.getD i 0 ≤ 15) : cntB sizes ins 16 = (keysA ins sizes.length).length := by
  rw [cntB_filter]
  have hn : (((List.range 16).filter fun c : Nat => decide (0 < loadA sizes ins sizes.length c)).map fun c : Nat => (c : Int)).Nodup := by
    rw [List.nodup_iff_pairwise_ne, List.pairwise_map]
    have h := (List.nodup_iff_pairwise_ne.1 (List.nodup_range (n := 16))).filter (fun c : Nat => decide (0 < loadA sizes ins sizes.length c))
    exact h.imp fun {a b} hab c => hab (by omega)
  have hmem : ∀ x : Int, x ∈ (((List.range 16).filter fun c : Nat => decide (0 < loadA sizes ins sizes.length c)).map fun c : Nat => (c : Int)) ↔ x ∈ keysA ins sizes.length := fun x => by
    rw [List.mem_map]
    constructor
    · rintro ⟨c, hc, rfl⟩
      rw [List.mem_filter] at hc
      exact (loadA_pos sizes ins hs c _ (Nat.le_refl _)).1 (of_decide_eq_true hc.2)
    · intro hx
      obtain ⟨i, hi, he⟩ := (mem_keysA ins _ x).1 hx
      have := hb i hi
      rw [he] at this
      obtain ⟨c, rfl⟩ := Int.eq_ofNat_of_zero_le this.1
      refine ⟨c, ?_, rfl⟩
      rw [List.mem_filter, List.mem_range]
      exact ⟨by omega, decide_eq_true ((loadA_pos sizes ins hs c _ (Nat.le_refl _)).2 hx)⟩
  have k1 := sub_lenG hn (fun x hx => (hmem x).1 hx)
  have k2 := sub_lenG (keysL_nodup ins (revRange sizes.length)) (fun x hx => (hmem x).2 hx)
  exact Nat.le_antisymm k1 k2
/-- what the document's Many tells -/
def RMany (sizes : List Int) (room : Int) (ins : List Int) (e n : Int) : Prop :=
  (ins.length ≠ sizes.length ∧ e = 3 ∧ n = 0) ∨
  (ins.length = sizes.length ∧ ((∃ i, i < sizes.length ∧ ¬ (0 ≤ ins.getD i 0 ∧ ins.getD i 0 ≤ 15)) ∧ e = 1 ∧ n = 0 ∨
    (∀ i, i < sizes.length → 0 ≤ ins.getD i 0 ∧ ins.getD i 0 ≤ 15) ∧ ((∃ k : Nat, k < 16 ∧ room < loadA sizes ins sizes.length k) ∧ e = 6 ∧ n = 0 ∨
      (∀ k : Nat, k < 16 → loadA sizes ins sizes.length k ≤ room) ∧ e = 0 ∧ n = (cntB sizes ins 16 : Nat))))
theorem many_same {sizes : List Int} {room : Int} {ins : List Int} {e n n' er : Int} (hf : Fine sizes room) (R : RMany sizes room ins e n) (Q : ManyResC sizes room ins n' er) : er = e ∧ n' = n := by
  have hs : ∀ n ∈ sizes, 1 ≤ n := fun n hn => (hf.all n hn).1
  have r1 := hf.r1
  rcases R with ⟨h, rfl, rfl⟩ | ⟨h, ⟨⟨i, hi, hb⟩, rfl, rfl⟩ | ⟨hin, ⟨⟨k, hk, hl⟩, rfl, rfl⟩ | ⟨hl, rfl, rfl⟩⟩⟩
  · have hne : er ≠ 0 := fun c => h (Q.good.1 c).len
    refine ⟨?_, Q.none hne⟩
    rcases Q.code hne with ⟨_, c⟩ | ⟨c, _⟩ | ⟨c, _⟩
    · exact c
    · exact absurd c h
    · exact absurd c h
  · have hne : er ≠ 0 := fun c => hb ((Q.good.1 c).box i hi)
    refine ⟨?_, Q.none hne⟩
    rcases Q.code hne with ⟨c, _⟩ | ⟨_, _, c⟩ | ⟨_, c, _⟩
    · exact absurd h c
    · exact c
    · exact absurd (c i hi) hb
  · have hmem : (k : Int) ∈ keysA ins sizes.length := (loadA_pos sizes ins hs k _ (Nat.le_refl _)).1 (by omega)
    have hne : er ≠ 0 := fun c => by have := (Q.good.1 c).load k hmem; omega
    refine ⟨?_, Q.none hne⟩
    rcases Q.code hne with ⟨c, _⟩ | ⟨_, ⟨i, hi, hb⟩, _⟩ | ⟨_, _, c⟩
    · exact absurd h c
    · exact absurd (hin i hi) hb
    · exact c
  · have hP : Packs sizes room ins := ⟨h, hin, fun c hc => by
      obtain ⟨i, hi, he⟩ := (mem_keysA ins _ c).1 hc
      have := hin i hi
      rw [he] at this
      obtain ⟨k, rfl⟩ := Int.eq_ofNat_of_zero_le this.1
      exact hl k (by omega)⟩
    have h0 := Q.good.2 hP
    exact ⟨h0, by rw [Q.many h0, cntB_keys hs hin]⟩

/-! ### walks -/
theorem has_any3 (times on : List Int) (n : Nat) (hn : n = times.length) (c : Int) (a b : Option Addr) (cap cap' : Nat) (w : World) (hx : Ints w a times) (hy : Ints w b on) (hs : times.length ≤ 1000) (hl : on.length = times.length) (hb : ∀ t ∈ times, 0 ≤ t ∧ t ≤ 1000) :
    Calls Tryd.prog 74 #[.slice a times.length cap, .slice b n cap', .int .i64 c] w fun e w' => e = .returned (.int .i64 (loadA times on times.length c)) ∧ w' = w := by
  subst hn; exact has_any times on c a b cap cap' w hx hy hs hl hb
set_option maxRecDepth 100000 in
set_option maxHeartbeats 1000000 in
theorem rmany_bad (sizes ins : List Int) (room : Int) (a b : Option Addr) (cap cap' : Nat) (w : World) (hx : Ints w a sizes) (hl : sizes.length ≤ 9223372036854775807) (hl' : ins.length ≤ 9223372036854775807) (h : chk sizes room ≠ 0) :
    Calls Tryd.prog 39 #[.slice a sizes.length cap, .int .i64 room, .slice b ins.length cap'] w fun e w' => e = .returned (.tuple #[.int .i64 (chk sizes room), .int .i64 0]) ∧ w' = w := by
  have hT := rsizes_any sizes room a cap w hx hl
  have h0 : (chk sizes room == 0) = false := by rw [beq_eq_false_iff_ne]; exact h
  have h1 : (chk sizes room != 0) = true := by rw [bne_iff_ne]; exact h
  generalize chk sizes room = c at *
  have HT := Lib.hid hT
  clear hT h
  go_enter Tryd.func39, Tryd.ntmps39
  go_wp2_with fail
  refine HT.out.mono ?_
  rintro e w1 ⟨rfl, rfl⟩
  go_wp2
  go_loop [8, 9] (fun e i => e = .int .i64 c ∧ i = .int .i64 0) (fun _ _ => 0)
  case atStart => exact ⟨rfl, rfl⟩
  case round =>
    obtain ⟨rfl, rfl⟩ := hrel
    go_wp2
    all_goals
      go_ret2
      exact ⟨rfl, rfl⟩
set_option maxRecDepth 100000 in
set_option maxHeartbeats 2000000 in
theorem rmany_any (sizes ins : List Int) (room : Int) (a b : Option Addr) (cap cap' : Nat) (w : World) (hx : Ints w a sizes) (hy : Ints w b ins) (hf : Fine sizes room) (hl' : ins.length ≤ 9223372036854775807) :
    Calls Tryd.prog 39 #[.slice a sizes.length cap, .int .i64 room, .slice b ins.length cap'] w fun e w' => ∃ er n, e = .returned (.tuple #[.int .i64 er, .int .i64 n]) ∧ RMany sizes room ins er n ∧ w' = w := by
  have hT := rsizes_any sizes room a cap w hx (by have := hf.short; omega)
  rw [fine_chk hf] at hT
  have HT := Lib.hid hT
  have hs := hf.short
  have r1 := hf.r1
  have r2 := hf.r2
  have hall := hf.all
  clear hT
  by_cases hlen : ins.length = sizes.length
  · have hne : ((ins.length : Int) != (sizes.length : Int)) = false := by rw [bne_eq_false_iff_eq]; omega
    have Hlen := Lib.hid hlen
    have hon16 : ins.length ≤ 16 := by omega
    clear hlen
    go_enter Tryd.func39, Tryd.ntmps39
    go_wp2_with fail
    refine HT.out.mono ?_
    rintro e w1 ⟨rfl, rfl⟩
    go_wp2
    go_loop [8, 9] (fun e i => ∃ k : Nat, i = .int .i64 k ∧ k ≤ ins.length ∧ ((e = .int .i64 0 ∧ ∀ j, j < k → 0 ≤ ins.getD j 0 ∧ ins.getD j 0 ≤ 15) ∨ (e = .int .i64 1 ∧ ∃ j, j < ins.length ∧ ¬ (0 ≤ ins.getD j 0 ∧ ins.getD j 0 ≤ 15)))) (fun _ i => ins.length - (intOf i).toNat)
    case atStart => exact ⟨0, rfl, Nat.zero_le _, .inl ⟨rfl, fun j hj => by omega⟩⟩
    case round =>
      obtain ⟨k, rfl, hk, ⟨rfl, hg⟩ | ⟨rfl, hbad⟩⟩ := hrel
      · have Hg := Lib.hid hg
        clear hg
        rcases Nat.lt_or_ge k ins.length with hlt | hge
        · obtain ⟨bb, oo, rfl, hc⟩ := hy.open (by omega)
          have hck := hc k hlt
          clear hc
          generalize hv : ins.getD k 0 = v at hck
          have Hv := Lib.hid hv
          clear hv
          by_cases hr : v < 0 ∨ 15 < v
          · have Hr := Lib.hid hr
            clear hr
            go_wp2_with fail
            refine (rin_no v 0 15 Hr.out _).mono ?_
            rintro e w2 ⟨rfl, rfl⟩
            go_wp2
            go_round
            case rel => exact ⟨k + 1, by go_num, by omega, .inr ⟨rfl, k, hlt, by rw [Hv.out]; have := Hr.out; omega⟩⟩
            case measure => simp only [intOf]; omega
          · have v1 : 0 ≤ v := by omega
            have v2 : v ≤ 15 := by omega
            clear hr
            go_wp2_with fail
            refine (rin_yes v 0 15 v1 v2 _).mono ?_
            rintro e w2 ⟨rfl, rfl⟩
            go_wp2
            go_round
            case rel =>
              refine ⟨k + 1, by go_num, by omega, .inl ⟨rfl, fun j hj => ?_⟩⟩
              rcases Nat.lt_or_ge j k with h | h
              · exact Hg.out j h
              · obtain rfl : j = k := by omega
                rw [Hv.out]; exact ⟨v1, v2⟩
            case measure => simp only [intOf]; omega
        · obtain rfl : ins.length = k := by omega
          have h3 : decide (ins.length < ins.length) = false := by simp
          have hin : ∀ i, i < sizes.length → 0 ≤ ins.getD i 0 ∧ ins.getD i 0 ≤ 15 := fun i hi => Hg.out i (by rw [Hlen.out]; exact hi)
          have hhas := fun c : Int => has_any3 sizes ins ins.length Hlen.out c a b cap cap' w hx hy (by omega) Hlen.out (fun t ht => by have := hall t ht; omega)
          have habs := fun c : Nat => loadA_abs sizes ins (fun t ht => by have := hall t ht; omega) c sizes.length (Nat.le_refl _)
          have HH := Lib.hid hhas
          have HA := Lib.hid habs
          have HIn := Lib.hid hin
          clear hhas habs hin
          go_wp2
          go_loop [10, 11] (fun nv ix => ∃ k : Nat, ix = .int .i64 k ∧ k ≤ 16 ∧ nv = .int .i64 (cntB sizes ins k : Nat) ∧ ∀ c : Nat, c < k → loadA sizes ins sizes.length c ≤ room) (fun _ i => 16 - (intOf i).toNat)
          case atStart => exact ⟨0, rfl, Nat.zero_le _, rfl, fun c hc => by omega⟩
          case round =>
            obtain ⟨k, rfl, hk, rfl, hle⟩ := hrel
            have HLe := Lib.hid hle
            clear hle
            rcases Nat.lt_or_ge k 16 with hkm | hkm
            · have hkI : (k : Int) < 16 := by omega
              have H1 := Lib.hid (HH.out (k : Int))
              have ha := HA.out k
              have hcs : cntB sizes ins (k + 1) = cntB sizes ins k + if 0 < loadA sizes ins sizes.length k then 1 else 0 := rfl
              have hcl := cntB_le sizes ins k
              generalize hv : loadA sizes ins sizes.length (k : Int) = vv at *
              generalize cntB sizes ins k = cn at *
              have HV := Lib.hid hv
              have HCs := Lib.hid hcs
              clear hv hcs
              rcases Int.lt_or_le room vv with huv | huv
              · go_wp2_with fail
                refine H1.out.mono ?_
                rintro e w3 ⟨rfl, rfl⟩
                go_wp2
                go_ret2
                exact ⟨6, 0, rfl, .inr ⟨Hlen.out, .inr ⟨HIn.out, .inl ⟨⟨k, hkm, by rw [HV.out]; exact huv⟩, rfl, rfl⟩⟩⟩, rfl⟩
              · rcases Int.lt_or_le 0 vv with hv0 | hv0
                · go_wp2_with fail
                  refine H1.out.mono ?_
                  rintro e w3 ⟨rfl, rfl⟩
                  go_wp2
                  go_round
                  case rel =>
                    refine ⟨k + 1, by go_num, by omega, by rw [HCs.out, if_pos hv0]; go_num, fun c hc => ?_⟩
                    rcases Nat.lt_or_ge c k with d | d
                    · exact HLe.out c d
                    · obtain rfl : c = k := by omega
                      rw [HV.out]; exact huv
                  case measure => simp only [intOf]; omega
                · go_wp2_with fail
                  refine H1.out.mono ?_
                  rintro e w3 ⟨rfl, rfl⟩
                  go_wp2
                  go_round
                  case rel =>
                    refine ⟨k + 1, by go_num, by omega, by rw [HCs.out, if_neg (by omega)]; rfl, fun c hc => ?_⟩
                    rcases Nat.lt_or_ge c k with d | d
                    · exact HLe.out c d
                    · obtain rfl : c = k := by omega
                      rw [HV.out]; exact huv
                  case measure => simp only [intOf]; omega
            · obtain rfl : k = 16 := by omega
              go_wp2
              go_ret2
              exact ⟨0, _, rfl, .inr ⟨Hlen.out, .inr ⟨HIn.out, .inr ⟨HLe.out, rfl, rfl⟩⟩⟩, rfl⟩
      · obtain ⟨j, hj, hnj⟩ := hbad
        have HB : Hid (∃ i, i < sizes.length ∧ ¬ (0 ≤ ins.getD i 0 ∧ ins.getD i 0 ≤ 15)) := Lib.hid ⟨j, by have := Hlen.out; omega, hnj⟩
        clear hnj hj
        go_wp2
        all_goals
          go_ret2
          exact ⟨1, 0, rfl, .inr ⟨Hlen.out, .inl ⟨HB.out, rfl, rfl⟩⟩, rfl⟩
  · have hne : ((ins.length : Int) != (sizes.length : Int)) = true := by rw [bne_iff_ne]; omega
    have HNo := Lib.hid hlen
    clear hlen
    go_enter Tryd.func39, Tryd.ntmps39
    go_wp2_with fail
    refine HT.out.mono ?_
    rintro e w1 ⟨rfl, rfl⟩
    go_wp2
    go_loop [8, 9] (fun e i => e = .int .i64 3 ∧ i = .int .i64 0) (fun _ _ => 0)
    case atStart => exact ⟨rfl, rfl⟩
    case round =>
      obtain ⟨rfl, rfl⟩ := hrel
      go_wp2
      all_goals
        go_ret2
        exact ⟨3, 0, rfl, .inl ⟨HNo.out, rfl, rfl⟩, rfl⟩
end Go.Proofs.YtomgcfjdmoefgaaDoor
