/- WALKS: the document's Long, Wrap; lists of pieces held side by side. -/
import Derived.Test.YtomgcfjdmoefgaaDoorWrapMakeS
import Derived.Test.YtomgcfjdmoefgaaDoorRefJobs
import Derived.StillTailTactics
import Derived.Deep.RegionLaw
import Derived.Deep.AppendLies
namespace Go.Proofs.YtomgcfjdmoefgaaDoor
open Go Go.RowKit SharePlain PackPlain ShareLaw

/-! ### Long -/
theorem fair_is {times : List Int} {m : Nat} (hm : 1 ≤ m) {v : Int} (h1 : times.foldl max 0 ≤ v) (h2 : v ≤ fairOf times m) (h3 : times.sum ≤ v * m) : v = fairOf times m := by
  have h4 := ceil_le times.sum m hm v (by rw [Int.mul_comm]; exact h3)
  unfold fairOf at h2 ⊢
  omega
theorem fair_more {times : List Int} {m : Nat} (hm : 1 ≤ m) {v : Int} (h3 : v * m < times.sum) : v + 1 ≤ fairOf times m := by
  have h4 := le_ceil times.sum m hm
  have h5 : v * m < (times.sum + m - 1) / m * m := by rw [Int.mul_comm ((times.sum + m - 1) / m)]; omega
  have h6 := Int.lt_of_mul_lt_mul_right h5 (by omega)
  unfold fairOf
  omega
theorem fair_small {times : List Int} {m : Nat} (hf : Fine times m) : 0 ≤ fairOf times m ∧ fairOf times m ≤ 16000 := by
  have r1 := hf.r1
  have hsum := hf.sum
  have h1 := (foldl_max times 0).1
  have h2 : times.foldl max 0 ≤ 1000 := by
    rcases (foldl_max times 0).2.2 with e | e
    · omega
    · exact (hf.all _ e).2
  have h3 : (times.sum + m - 1) / m ≤ 16000 := ceil_le times.sum m (by omega) 16000 (by omega)
  unfold fairOf; omega
set_option maxHeartbeats 1000000 in
theorem rlong_any (times : List Int) (m : Nat) (a : Option Addr) (cap : Nat) (w : World) (hx : Ints w a times) (hf : Fine times m) :
    Calls Tryd.prog 10 #[.slice a times.length cap, .int .i64 m] w fun e w' => e = .returned (.int .i64 (fairOf times m)) ∧ w = w' := by
  have hs := hf.short
  have r1 := hf.r1
  have r2 := hf.r2
  have hsm := fair_small hf
  have hsum := hf.sum
  go_enter Tryd.func10, Tryd.ntmps10
  go_wp2
  go_loop [5, 6, 7] (fun s mo i => ∃ k : Nat, k ≤ times.length ∧ i = .int .i64 k ∧ s = .int .i64 (times.take k).sum ∧ mo = .int .i64 ((times.take k).foldl max 0)) (fun _ _ i => times.length - (intOf i).toNat)
  case atStart => exact ⟨0, Nat.zero_le _, rfl, rfl, rfl⟩
  case round =>
    obtain ⟨k, hk, rfl, rfl, rfl⟩ := hrel
    have htk := take_sum_le times hf.nonneg k
    rcases Nat.lt_or_ge k times.length with hlt | hge
    · obtain ⟨b, off, rfl, hcs⟩ := hx.open (by omega)
      have hck := hcs k hlt
      have hsk := hf.all _ (getD_mem times k hlt)
      have e1 := sum_take times k hlt
      have e2 := foldl_take times k hlt
      clear hcs
      generalize hv : times.getD k 0 = v at hck hsk e1 e2
      generalize hS : (times.take k).sum = S0 at e1 htk ⊢
      generalize hM : (times.take k).foldl max 0 = M0 at e2 ⊢
      have E1 := Lib.hid e1
      have E2 := Lib.hid e2
      clear e1 e2 hv hS hM
      rcases Int.lt_or_le M0 v with h | h
      · go_wp2
        go_round
        case rel => exact ⟨k + 1, by omega, by go_num, by rw [E1.out], by rw [E2.out, Int.max_eq_right (by omega)]⟩
        case measure => simp only [intOf]; omega
      · go_wp2
        go_round
        case rel => exact ⟨k + 1, by omega, by go_num, by rw [E1.out], by rw [E2.out, Int.max_eq_left (by omega)]⟩
        case measure => simp only [intOf]; omega
    · obtain rfl : k = times.length := by omega
      have h5 : decide (times.length < times.length) = false := by simp
      rw [List.take_length]
      have hM0 : times.foldl max 0 ≤ fairOf times m := by unfold fairOf; omega
      have hMp := (foldl_max times 0).1
      have H0 := Lib.hid (show times.foldl max 0 ≤ times.foldl max 0 ∧ times.foldl max 0 ≤ fairOf times m from ⟨Int.le_refl _, hM0⟩)
      have HI := Lib.hid (fun v => fair_is (times := times) (m := m) (v := v) (by omega))
      have HM := Lib.hid (fun v => fair_more (times := times) (m := m) (v := v) (by omega))
      clear htk hM0
      generalize times.foldl max 0 = M0 at *
      generalize hLe : fairOf times m = L at *
      have HLe := Lib.hid hLe
      clear hLe
      generalize times.sum = S0 at *
      go_wp2
      go_loop [6] (fun mo => ∃ v : Int, mo = .int .i64 v ∧ M0 ≤ v ∧ v ≤ L) (fun mo => (L - intOf mo).toNat)
      case atStart => exact ⟨M0, rfl, H0.out⟩
      case round =>
        obtain ⟨v, rfl, v1, v2⟩ := hrel
        have hmul : 0 ≤ v * m ∧ v * m ≤ 16000 * 6 := ⟨Int.mul_nonneg (by omega) (by omega), Int.mul_le_mul (by omega) (by omega) (by omega) (by omega)⟩
        rcases Int.lt_or_le (v * m) S0 with h | h
        · have h3 := HM.out v h
          go_wp2
          go_round
          case rel => exact ⟨v + 1, by go_num, by omega, h3⟩
          case measure => simp only [intOf]; omega
        · have h3 := HI.out v v1 v2 h
          have H3 := Lib.hid h3
          clear h3
          go_wp2
          go_ret
          exact ⟨by first | (rw [H3.out]; done) | (rw [H3.out, HLe.out]; rfl), rfl⟩

/-! ### Wrap -/
/-- what the loops keep -/
structure RWrap (times : List Int) (L : Int) (w : World) (j : Nat) (x : Int) (al : Option Addr) (capl : Nat) (l : List Pc) (wr : World) : Prop where
  own : PcOwn wr w.heap.size al capl l
  bel : Below w.heap.size w wr
  reach : WrapPlain.Reach times L j x l
  short : (l.length : Int) ≤ j + x
theorem startOf_mono {times : List Int} (h : ∀ t ∈ times, 0 ≤ t) (k : Nat) : 0 ≤ WrapPlain.startOf times k ∧ WrapPlain.startOf times k ≤ times.sum := take_sum_le times h k
set_option maxRecDepth 100000 in
set_option maxHeartbeats 2000000 in
theorem rwrap_any (times : List Int) (m : Nat) (a : Option Addr) (cap : Nat) (w : World) (hx : Ints w a times) (hf : Fine times m) :
    Calls Tryd.prog 11 #[.slice a times.length cap, .int .i64 m] w fun e w' => ∃ al capl l, e = .returned (.slice al l.length capl) ∧ PcOwn w' w.heap.size al capl l ∧ Below w.heap.size w w' ∧ ∃ x, WrapPlain.Reach times (fairOf times m) times.length x l := by
  have hs := hf.short
  have hsum := hf.sum
  have hsm := fair_small hf
  have hL0 : 0 < times.length → 0 < fairOf times m := fun h => by
    have h1 := (foldl_max times 0).2.1 _ (List.getElem_mem (l := times) (n := 0) h)
    have h2 := hf.all _ (List.getElem_mem (l := times) (n := 0) h)
    unfold fairOf; omega
  have hLong := rlong_any times m a cap w hx hf
  have HSt := Lib.hid (fun k => startOf_mono hf.nonneg k)
  have HSs := Lib.hid (fun k h => WrapPlain.startOf_succ times k h)
  generalize fairOf times m = L at *
  have HL0 := Lib.hid hL0
  have HLong := Lib.hid hLong
  clear hL0 hLong
  obtain ⟨i0, hi, hz0, hz1, hz2⟩ := info_parts pcInfo
  go_enter Tryd.func11, Tryd.ntmps11
  go_wp2_with fail
  refine HLong.out.mono ?_
  rintro e w1 ⟨rfl, rfl⟩
  go_wp2
  go_loopw [6, 7, 8] (fun out from_ idx wr => ∃ (j : Nat) (al : Option Addr) (capl : Nat) (l : List Pc), out = .slice al l.length capl ∧ from_ = .int .i64 (WrapPlain.startOf times j) ∧ idx = .int .i64 j ∧ j ≤ times.length ∧ RWrap times L w j (WrapPlain.startOf times j) al capl l wr)
    (fun _ _ i _ => times.length - (intOf i).toNat)
  case atStart => exact ⟨0, none, 0, [], rfl, by rw [show WrapPlain.startOf times 0 = 0 by simp [WrapPlain.startOf]], rfl, Nat.zero_le _, PcOwn.nil _ _, Below.refl _ _, by rw [show WrapPlain.startOf times 0 = 0 by simp [WrapPlain.startOf]]; exact WrapPlain.Reach.zero _ _, by simp [WrapPlain.startOf]⟩
  case round =>
    obtain ⟨j, al, capl, l, rfl, rfl, rfl, hj, R⟩ := hrel
    rcases Nat.lt_or_ge j times.length with hlt | hge
    · have hLp := HL0.out (by omega)
      obtain ⟨bt, ot, rfl, hct⟩ := (hx.below R.bel).open (by omega)
      have hcj := hct j hlt
      have htj := hf.all _ (getD_mem times j hlt)
      have s1 := HSt.out j
      have s2 := HSt.out (j + 1)
      have s3 := HSs.out j hlt
      clear hct
      generalize times.getD j 0 = tj at *
      generalize hF : WrapPlain.startOf times j = F at *
      generalize hT : WrapPlain.startOf times (j + 1) = T at *
      have HT := Lib.hid hT
      have HR := Lib.hid R
      clear R hF hT
      subst s3
      go_wp2
      go_loopw [6, 10] (fun out at_ wx => ∃ (x : Int) (al : Option Addr) (capl : Nat) (l : List Pc), out = .slice al l.length capl ∧ at_ = .int .i64 x ∧ F ≤ x ∧ x ≤ F + tj ∧ RWrap times L w j x al capl l wx) (fun _ x _ => (F + tj - intOf x).toNat)
      case atStart => exact ⟨F, al, capl, l, rfl, rfl, Int.le_refl _, by omega, HR.out⟩
      case round =>
        obtain ⟨x, al2, capl2, l2, rfl, rfl, x1, x2, R2⟩ := hrel
        rcases Int.lt_or_le x (F + tj) with hxt | hxt
        · obtain ⟨q, hq⟩ : ∃ q : Nat, x / L = q := ⟨(x / L).toNat, by have := Int.ediv_nonneg (show 0 ≤ x by omega) (show 0 ≤ L by omega); omega⟩
          obtain ⟨r, hr⟩ : ∃ r, x % L = r := ⟨_, rfl⟩
          have hr0 := Int.emod_nonneg x (show L ≠ 0 by omega)
          have hrL := Int.emod_lt_of_pos x hLp
          have hdm := Int.emod_add_mul_ediv x L
          rw [hr] at hr0 hrL hdm
          rw [hq, Int.mul_comm] at hdm
          have hquo : Int.tdiv x L = q := by rw [Int.tdiv_eq_ediv_of_nonneg (by omega)]; exact hq
          have hrem : Int.tmod x L = r := by rw [Int.tmod_eq_emod_of_nonneg (by omega)]; exact hr
          have hmul : ((q : Int) + 1) * L = x - r + L := by rw [Int.add_mul, Int.one_mul]; omega
          have hLne : ¬ L = 0 := by omega
          have hLne2 : (L == 0) = false := by rw [beq_eq_false_iff_ne]; exact hLne
          have hqx : (q : Int) ≤ x := by
            have : (q : Int) * 1 ≤ q * L := Int.mul_le_mul_of_nonneg_left (by omega) (by omega)
            omega
          have hown := R2.own
          have Hbel := Lib.hid R2.bel
          have hbsz := R2.bel.size
          have Hlt := Lib.hid (PcOwn.lt hown)
          have hls := R2.short
          have HP := Lib.hid (fun k hk => R2.reach.piece hlt (by rw [HT.out]; exact hxt) k q r hk hq hr)
          clear R2 hq hr hdm
          have post : Hid (∀ (k to_ : Int) (v2 : Value) (w2 : World), k = min (F + tj - x) (L - r) → to_ = r + k → (w2.ownsRow w.heap.size 80 4 v2 (l2.length + 1) (flat l2 ++ [.int .i64 q, .int .i64 j, .int .i64 r, .int .i64 to_])) → (wr.alloc (.cells #[.int .i64 q, .int .i64 j, .int .i64 r, .int .i64 to_] 80)).drew.grownBy w2 (Value.slice al2 l2.length capl2).ownBlock →
              ∃ a3 cap3, v2 = .slice a3 (l2 ++ [(⟨(q : Int), j, r, r + k⟩ : Pc)]).length cap3 ∧ RWrap times L w j (x + k) a3 cap3 (l2 ++ [⟨q, j, r, r + k⟩]) w2) := by
            refine Lib.hid fun k to_ v2 w2 hk hto own2 gr2 => ?_
            subst hto
            obtain ⟨a3, cap3, hv3, O3⟩ := PcOwn.of (l := l2 ++ [(⟨(q : Int), j, r, r + k⟩ : Pc)]) (n := l2.length + 1) (by rw [flat_append]; exact own2)
            refine ⟨a3, cap3, hv3, O3, (drewN_below (Hbel.out.alloc hbsz _) 1).grown gr2 (by show w.heap.size ≤ (wr.alloc _).heap.size; simp; omega) (fun kk e => (Hlt.out kk e).1), HP.out k (by rw [HT.out]; exact hk), ?_⟩
            rw [List.length_append, List.length_singleton]
            omega
          have hnew : ∀ (W : World) (to_ : Int) (t : TypeId) (g : Nat), g = W.heap.size → ∀ jj u, [Value.int .i64 q, .int .i64 j, .int .i64 r, .int .i64 to_][jj]? = some u → (W.alloc (.cells #[.int .i64 q, .int .i64 j, .int .i64 r, .int .i64 to_] t)).cell? ((⟨g, 0, none⟩ : Addr).add jj) = some u := fun W to_ t g hg jj u hu => by
            subst hg
            exact pc_cells_new W ⟨q, j, r, to_⟩ t jj u (by simpa [flat, pcVals] using hu)
          have Hnew := Lib.hid hnew
          clear hnew
          have hb1 : 0 ≤ x - r + L ∧ x - r + L ≤ 40000 := by omega
          have hw0 : IntKind.i64.wrap (q : Int) = q := IntWalk.i64_in _ (by omega)
          rcases Int.lt_or_le (F + tj) (x - r + L) with hk | hk
          · have hkk : Hid (F + tj - x = min (F + tj - x) (L - r)) := Lib.hid (by omega)
            have hw1 : IntKind.i64.wrap (r + (F + tj)) = r + (F + tj) := IntWalk.i64_in _ (by omega)
            have hw2 : IntKind.i64.wrap (r + (F + tj) - x) = r + (F + tj) - x := IntWalk.i64_in _ (by omega)
            go_upto_region 13 with fail
            go_region_law
              ((refine step_append_lies _ (by rfl) _ _ _ (by rfl) w.heap.size 80 i0 _ 4 32 Tryd.underlying23 hi hz0 hz1 hz2 rfl (by omega) (.slice al2 l2.length capl2) l2.length (flat l2) (by rfl) (World.ownsRow.alloc (World.ownsRow.drew hown) _) ⟨wr.heap.size, 0, none⟩ 1 1 [.int .i64 q, .int .i64 j, .int .i64 r, .int .i64 (r + (F + tj) - x)] (by rfl) (by rfl) (World.news_of_block (cs := #[.int .i64 q, .int .i64 j, .int .i64 r, .int .i64 (r + (F + tj) - x)]) (t := 80) (fr := (0, 0)) (heap_alloc_new _ _)) (by simp [Value.oneCell']) (by omega) (by unfold maxLen; omega) (by omega) (by simp; omega) (wr.heap.size + 1) (by simp) ?_; intro gg cap2 w2 hown2 hgr hat hlt2; obtain ⟨a3, cap3, hsl, hR3⟩ := post.out _ _ _ w2 hkk.out (by omega) hown2 hgr; have HR3 := Lib.hid hR3; have Hsl := Lib.hid hsl; clear hR3 hsl hown2 hgr hat hlt2))
            all_goals
              go_wp2
              go_roundw
              case rel => exact ⟨x + (F + tj - x), a3, cap3, _, Hsl.out, by go_num, by omega, by omega, HR3.out⟩
              case measure => simp only [intOf]; omega
          · have hkk : Hid (L - r = min (F + tj - x) (L - r)) := Lib.hid (by omega)
            have hw1 : IntKind.i64.wrap (r + (x - r + L)) = r + (x - r + L) := IntWalk.i64_in _ (by omega)
            have hw2 : IntKind.i64.wrap (r + (x - r + L) - x) = r + (x - r + L) - x := IntWalk.i64_in _ (by omega)
            go_upto_region 13 with fail
            go_region_law
              ((refine step_append_lies _ (by rfl) _ _ _ (by rfl) w.heap.size 80 i0 _ 4 32 Tryd.underlying23 hi hz0 hz1 hz2 rfl (by omega) (.slice al2 l2.length capl2) l2.length (flat l2) (by rfl) (World.ownsRow.alloc (World.ownsRow.drew hown) _) ⟨wr.heap.size, 0, none⟩ 1 1 [.int .i64 q, .int .i64 j, .int .i64 r, .int .i64 (r + (x - r + L) - x)] (by rfl) (by rfl) (World.news_of_block (cs := #[.int .i64 q, .int .i64 j, .int .i64 r, .int .i64 (r + (x - r + L) - x)]) (t := 80) (fr := (0, 0)) (heap_alloc_new _ _)) (by simp [Value.oneCell']) (by omega) (by unfold maxLen; omega) (by omega) (by simp; omega) (wr.heap.size + 1) (by simp) ?_; intro gg cap2 w2 hown2 hgr hat hlt2; obtain ⟨a3, cap3, hsl, hR3⟩ := post.out _ _ _ w2 hkk.out (by omega) hown2 hgr; have HR3 := Lib.hid hR3; have Hsl := Lib.hid hsl; clear hR3 hsl hown2 hgr hat hlt2))
            all_goals
              go_wp2
              go_roundw
              case rel => exact ⟨x + (L - r), a3, cap3, _, Hsl.out, by go_num, by omega, by omega, HR3.out⟩
              case measure => simp only [intOf]; omega
        · obtain rfl : x = F + tj := by omega
          have HR2 := Lib.hid R2
          clear R2
          go_wp2
          go_roundw
          case rel => exact ⟨j + 1, al2, capl2, l2, rfl, by rw [HT.out], by go_num, by omega, by rw [HT.out]; exact ⟨HR2.out.own, HR2.out.bel, HR2.out.reach.next hlt (by rw [HT.out]; exact Int.le_refl _), by have := HR2.out.short; omega⟩⟩
          case measure => simp only [intOf]; omega
    · obtain rfl : times.length = j := by omega
      have h3 : decide (times.length < times.length) = false := by simp
      have HR := Lib.hid R
      clear R
      go_wp2
      go_ret
      exact ⟨al, capl, l, rfl, HR.out.own, HR.out.bel, _, HR.out.reach⟩
end Go.Proofs.YtomgcfjdmoefgaaDoor
