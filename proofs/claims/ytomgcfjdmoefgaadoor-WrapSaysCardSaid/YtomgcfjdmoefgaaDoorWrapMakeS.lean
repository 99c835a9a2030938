/- WALK: wrap.Make: the pieces are McNaughton's. -/
import Derived.Test.YtomgcfjdmoefgaaDoorWrapFitsS
import Derived.Test.YtomgcfjdmoefgaaDoorWrapMakePlain
import Derived.OwnWalk
import Derived.Maps.AppendAt
namespace Go.Proofs.YtomgcfjdmoefgaaDoor
open Go Go.RowKit SharePlain PackPlain ShareLaw

def pcVals (p : Pc) : List Value := [.int .i64 p.m, .int .i64 p.j, .int .i64 p.f, .int .i64 p.t]
def flat (l : List Pc) : List Value := l.flatMap pcVals
theorem flat_length (l : List Pc) : (flat l).length = l.length * 4 := by
  induction l with
  | nil => rfl
  | cons p l ih => simp only [flat, List.flatMap_cons, List.length_append, List.length_cons] at ih ⊢; rw [ih]; simp [pcVals]; omega
theorem flat_append (l l' : List Pc) : flat (l ++ l') = flat l ++ flat l' := by simp [flat]
theorem flat_get (l : List Pc) : ∀ (i f : Nat), i < l.length → f < 4 → (flat l)[i * 4 + f]? = (pcVals (l.getD i p0))[f]? := by
  induction l with
  | nil => intro i f h; simp at h
  | cons p l ih =>
    intro i f h hf
    have hl : (pcVals p).length = 4 := rfl
    rw [show flat (p :: l) = pcVals p ++ flat l from rfl]
    cases i with
    | zero => rw [Nat.zero_mul, Nat.zero_add, List.getElem?_append_left (by omega)]; rfl
    | succ i =>
      rw [List.getElem?_append_right (by omega), hl, show (i + 1) * 4 + f - 4 = i * 4 + f by omega, ih i f (by simpa using h) hf]; rfl
theorem flat_one (l : List Pc) : ∀ u ∈ flat l, u.oneCell' = true := by
  intro u hu
  obtain ⟨p, _, hp⟩ := List.mem_flatMap.1 hu
  simp only [pcVals, List.mem_cons, List.not_mem_nil, or_false] at hp
  rcases hp with rfl | rfl | rfl | rfl <;> simp [Value.oneCell']

/-- pieces of the call's own -/
def PcOwn (w : World) (B : Nat) (a : Option Addr) (cap : Nat) (l : List Pc) : Prop := w.ownsRow B 80 4 (.slice a l.length cap) l.length (flat l)
theorem PcOwn.pcs {w : World} {B : Nat} {a : Option Addr} {cap : Nat} {l : List Pc} (h : PcOwn w B a cap l) : Pcs w a l ∧ l.length ≤ cap := by
  rcases h.2 with ⟨h', h0⟩ | ⟨g, cap', cur, h', hb, hg, hc, _, hs, ht⟩
  · simp only [Value.slice.injEq] at h'
    exact ⟨Or.inl (List.eq_nil_of_length_eq_zero h0), by omega⟩
  · simp only [Value.slice.injEq, true_and] at h'
    obtain ⟨rfl, rfl⟩ := h'
    refine ⟨Or.inr ⟨g, 0, rfl, lt_of_block hg, fun i hi => ?_⟩, hc⟩
    have key : ∀ f, f < 4 → ∀ v, (pcVals (l.getD i p0))[f]? = some v → w.cell? ⟨g, i * 4 + f, none⟩ = some v := by
      intro f hf v hv
      rw [← flat_get l i f hi hf, ← ht, List.getElem?_take_of_lt (by omega)] at hv
      simp only [Array.getElem?_toList] at hv
      simp [World.cell?, hg, hv]
    rw [Nat.zero_add]
    exact ⟨key 0 (by omega) _ rfl, key 1 (by omega) _ rfl, key 2 (by omega) _ rfl, key 3 (by omega) _ rfl⟩
theorem PcOwn.alloc {w : World} {B : Nat} {a : Option Addr} {cap : Nat} {l : List Pc} (h : PcOwn w B a cap l) (o : Obj) : PcOwn (w.alloc o) B a cap l := World.ownsRow.alloc h o
theorem PcOwn.nil (w : World) (B : Nat) : PcOwn w B none 0 [] := World.ownsRow_nil _ _ _ _
theorem PcOwn.lt {w : World} {B : Nat} {a : Option Addr} {cap : Nat} {l : List Pc} (h : PcOwn w B a cap l) : ∀ k, (Value.slice a l.length cap).ownBlock = some k → B ≤ k ∧ k < w.heap.size := World.ownsRow.lt h
theorem PcOwn.of {w : World} {B : Nat} {v : Value} {n : Nat} {l : List Pc} (h : w.ownsRow B 80 4 v n (flat l)) : ∃ a cap, v = .slice a l.length cap ∧ PcOwn w B a cap l := by
  have hn : n = l.length := by have := h.1; rw [flat_length] at this; omega
  subst hn
  rcases h.2 with ⟨rfl, h0⟩ | ⟨g, cap, cur, rfl, _⟩
  · exact ⟨none, 0, by rw [h0], by unfold PcOwn; rw [h0] at h ⊢; exact h⟩
  · exact ⟨_, _, rfl, h⟩
theorem pcInfo : (Tryd.prog.info? 80).map (fun i => (i.zero, i.size, i.bytes)) = some (some (.agg #[.int .i64 0, .int .i64 0, .int .i64 0, .int .i64 0]), 4, 32) := by kernel_rfl
theorem cell_of_cells {w : World} {b : Nat} {cur : Array Value} {t : TypeId} (h : w.heap[b]? = some (.cells cur t (0, 0))) (j : Nat) : w.cell? ⟨b, j, none⟩ = cur[j]? := by simp [World.cell?, h]
theorem add_zero_off (b j : Nat) : (⟨b, 0, none⟩ : Addr).add j = ⟨b, j, none⟩ := by
  cases j <;> simp [Addr.add]
theorem pc_cells_new (w : World) (p : Pc) (t : TypeId) : ∀ j u, (flat [p])[j]? = some u → (w.alloc (.cells #[.int .i64 p.m, .int .i64 p.j, .int .i64 p.f, .int .i64 p.t] t)).cell? ((⟨w.heap.size, 0, none⟩ : Addr).add j) = some u := by
  intro j u hj
  have hb := heap_alloc_new w (.cells #[.int .i64 p.m, .int .i64 p.j, .int .i64 p.f, .int .i64 p.t] t)
  have hj' : (#[Value.int .i64 p.m, .int .i64 p.j, .int .i64 p.f, .int .i64 p.t] : Array Value)[j]? = some u := by
    rw [← Array.getElem?_toList]; exact hj
  rw [add_zero_off, cell_of_cells hb]; exact hj'

/-- between two jobs -/
def Between (times : List Int) (L : Int) (j : Nat) (at_ : Nat) (now : Int) (out : List Pc) : Prop :=
  (j = 0 ∧ at_ = 0 ∧ now = 0 ∧ out = []) ∨ ∃ i, j = i + 1 ∧ WrapPlain.MkRel times L i 0 at_ now out
theorem Between.enter {times : List Int} {L : Int} {j at_ : Nat} {now : Int} {out : List Pc} (h : Between times L j at_ now out) (hj : j < times.length) (hL : 0 ≤ L) (hpos : 1 ≤ times.getD j 0) :
    WrapPlain.MkRel times L j (times.getD j 0) at_ now out := by
  rcases h with ⟨rfl, rfl, rfl, rfl⟩ | ⟨i, rfl, h⟩
  · exact WrapPlain.MkRel.start hj hL hpos
  · exact h.next hj hpos
theorem at_le {times : List Int} {L : Int} {j : Nat} {n : Int} {at_ m : Nat} {now : Int} {out : List Pc} (h : WrapPlain.MkRel times L j n at_ now out) (hj : j < times.length) (hn : 0 ≤ n) (hpos : ∀ t ∈ times, 0 ≤ t) (hm : times.sum ≤ m * L) (hL : 0 < L) : at_ ≤ m := by
  have h1 := h.line
  have h2 := h.now0
  have h3 := (take_sum_le times hpos (j + 1)).2
  unfold WrapPlain.startOf at h1
  have h4 : (at_ : Int) * L ≤ m * L := by omega
  have := Int.le_of_mul_le_mul_right h4 hL
  omega
/-- what the loops keep of the world -/
structure MakeW (w : World) (l : List Pc) (a : Option Addr) (cap : Nat) (wr : World) : Prop where
  own : PcOwn wr w.heap.size a cap l
  bel : Below w.heap.size w wr

/-- what Make makes -/
def MakeResL (times : List Int) (m : Nat) (L : Int) (w : World) (e : Ending) (w' : World) : Prop :=
  ∃ a cap l, e = .returned (.tuple #[.slice a l.length cap, .nilIface]) ∧ PcOwn w' w.heap.size a cap l ∧ Below w.heap.size w w' ∧ WrapPlain.Plan times m l L ∧ (l.length : Int) ≤ times.length + m - 1 ∧ (times.length = 0 → l = []) ∧ (0 < times.length → 0 < L) ∧ ∃ x, WrapPlain.Reach times L times.length x l
def MakeRes (times : List Int) (m : Nat) (w : World) (e : Ending) (w' : World) : Prop := MakeResL times m (fairOf times m) w e w'
theorem Make_no (times : List Int) (mach : Int) (a : Option Addr) (cap : Nat) (w : World) (hx : Ints w a times) (hl : times.length ≤ 9223372036854775807) (h : chk times mach ≠ 0) :
    Calls Tryd.prog 14 #[.slice a times.length cap, .int .i64 mach] w fun e w' => e = .returned (.tuple #[.slice none 0 0, .iface 81 (.int .i64 (chk times mach))]) ∧ w = w' := by
  have H := Lib.hid h
  clear h
  go_enter Tryd.func14, Tryd.ntmps14
  go_wp2_with fail
  refine (Long_no times mach a cap _ hx hl H.out).mono ?_
  rintro e w' ⟨rfl, rfl⟩
  go_wp2
  go_ret2
  exact ⟨rfl, rfl⟩
theorem plan_nil (m : Nat) (L : Int) : WrapPlain.Plan [] m [] L := ⟨by simp, by simp, fun k hk => by simp at hk⟩

set_option maxRecDepth 100000 in
set_option maxHeartbeats 4000000 in
theorem Make_yes (times : List Int) (m : Nat) (a : Option Addr) (cap : Nat) (w : World) (hx : Ints w a times) (hf : Fine times m) :
    Calls Tryd.prog 14 #[.slice a times.length cap, .int .i64 m] w fun e w' => MakeRes times m w e w' := by
  have hs := hf.short
  have r1 := hf.r1
  have r2 := hf.r2
  have hLong := Long_yes times m a cap w hx hf
  have hsum := hf.sum
  have hmL : times.sum ≤ m * fairOf times m := by
    have h1 := le_ceil times.sum m (by omega)
    have h2 : (times.sum + m - 1) / m ≤ fairOf times m := by unfold fairOf; omega
    have h3 : (m : Int) * ((times.sum + m - 1) / m) ≤ m * fairOf times m := Int.mul_le_mul_of_nonneg_left h2 (by omega)
    omega
  have hTL : ∀ t ∈ times, t ≤ fairOf times m := fun t ht => by
    have := (foldl_max times 0).2.1 t ht
    unfold fairOf; omega
  have hLs : 0 ≤ fairOf times m ∧ fairOf times m ≤ 16000 := by
    have h1 := (foldl_max times 0).1
    have h2 : times.foldl max 0 ≤ 1000 := by
      rcases (foldl_max times 0).2.2 with e | e
      · omega
      · exact (hf.all _ e).2
    have h3 : (times.sum + m - 1) / m ≤ 16000 := ceil_le times.sum m (by omega) 16000 (by omega)
    unfold fairOf; omega
  have hL0 : 0 < times.length → 0 < fairOf times m := fun h => by
    have h1 := hTL _ (List.getElem_mem (l := times) (n := 0) h)
    have h2 := hf.all _ (List.getElem_mem (l := times) (n := 0) h)
    omega
  unfold MakeRes
  generalize fairOf times m = L at hLong hmL hTL hLs hL0 ⊢
  have HTL := Lib.hid hTL
  have HmL := Lib.hid hmL
  have HL0 := Lib.hid hL0
  clear hTL hmL hL0
  obtain ⟨i0, hi, hz0, hz1, hz2⟩ := info_parts pcInfo
  go_enter Tryd.func14, Tryd.ntmps14
  go_wp2_with fail
  refine hLong.mono ?_
  rintro e w1 ⟨rfl, rfl⟩
  clear hLong
  go_wp2
  go_loopw [8, 9, 10, 25] (fun out at_ now idx wr => ∃ (j : Nat) (l : List Pc) (al : Option Addr) (capl q : Nat) (z : Int), out = .slice al l.length capl ∧ at_ = .int .i64 q ∧ now = .int .i64 z ∧ idx = .int .i64 j ∧ j ≤ times.length ∧ Between times L j q z l ∧ MakeW w l al capl wr)
    (fun _ _ _ i _ => times.length - (intOf i).toNat)
  case atStart => exact ⟨0, [], none, 0, 0, 0, rfl, rfl, rfl, rfl, Nat.zero_le _, Or.inl ⟨rfl, rfl, rfl, rfl⟩, PcOwn.nil _ _, Below.refl _ _⟩
  case round =>
    obtain ⟨j, l, al, capl, q, z, rfl, rfl, rfl, rfl, hj, hB, hW⟩ := hrel
    rcases Nat.lt_or_ge j times.length with hlt | hge
    · have hLp := HL0.out (by omega)
      obtain ⟨bt, ot, rfl, hct⟩ := (hx.below hW.bel).open (by omega)
      have hcj := hct j hlt
      have htj := hf.all _ (getD_mem times j hlt)
      have hM := hB.enter hlt (by omega) htj.1
      have hnj : times.getD j 0 ≤ L := HTL.out _ (getD_mem times j hlt)
      clear hct hB
      generalize hT : times.getD j 0 = tj at hcj htj hM hnj
      have HT := Lib.hid hT
      have HM := Lib.hid hM
      have HW := Lib.hid hW
      clear hT hM hW
      go_wp2
      go_loopw [8, 9, 10, 12] (fun out at_ now n wx => ∃ (l : List Pc) (al : Option Addr) (capl q : Nat) (z r : Int), out = .slice al l.length capl ∧ at_ = .int .i64 q ∧ now = .int .i64 z ∧ n = .int .i64 r ∧ 0 ≤ r ∧ r ≤ tj ∧ WrapPlain.MkRel times L j r q z l ∧ MakeW w l al capl wx)
        (fun _ _ _ n _ => (intOf n).toNat)
      case atStart => exact ⟨l, al, capl, q, z, tj, rfl, rfl, rfl, rfl, by omega, Int.le_refl _, HM.out, HW.out⟩
      case round =>
        obtain ⟨l2, al2, capl2, q2, z2, r2, rfl, rfl, rfl, rfl, h0, h1, hM2, hW2⟩ := hrel
        have hq := at_le hM2 hlt h0 hf.nonneg HmL.out hLp
        rcases Int.lt_or_le 0 r2 with hr | hr
        · have hcn : (l2.length : Int) ≤ j + q2 + 2 := by have := hM2.cnt; split at this <;> split at this <;> omega
          have hwsz := hW2.bel.size
          have hown := hW2.own
          have Hbel := Lib.hid hW2.bel
          have Hlt := Lib.hid (PcOwn.lt hown)
          have hz0' := hM2.now0
          have hzL := hM2.nowL
          clear hW2
          by_cases hz : z2 = L
          · have hzz : (z2 == L) = true := by rw [hz]; exact beq_self_eq_true L
            have HM2 := Lib.hid (hM2.wrap hr hz hLp)
            clear hM2 hz hz0' hzL
            rcases Int.lt_or_le (L - 0) r2 with hk | hk
            · exact absurd hk (by omega)
            · have M3 := HM2.out.step hr (by omega) hlt (by rw [HT.out]; exact h1) r2 (by omega)
              have HM3 := Lib.hid M3
              clear M3
              go_wp2_with (at_builtin; refine wpList_append_own _ rfl _ _ 23 rfl w.heap.size 80 i0 (.agg #[.int .i64 0, .int .i64 0, .int .i64 0, .int .i64 0]) 4 32 Tryd.underlying23 hi hz0 hz1 hz2 rfl (by decide) (.slice al2 l2.length capl2) l2.length (flat l2) rfl (World.ownsRow.alloc hown _) ⟨wr.heap.size, 0, none⟩ 1 1 (flat [(⟨((q2 : Int) + 1), j, 0, r2⟩ : Pc)]) rfl rfl (pc_cells_new _ _ _) (flat_one _) (by unfold maxLen; omega) (by omega) (by simp; omega) ?_; intro v2 w2 own2 gr2 _)
              obtain ⟨a3, cap3, hv3, O3⟩ := PcOwn.of (l := l2 ++ [(⟨((q2 : Int) + 1), j, 0, r2⟩ : Pc)]) (by rw [flat_append]; exact own2)
              have bel3 : Below w.heap.size w w2 := (Hbel.out.alloc hwsz _).grown gr2 (by simp; omega) (fun kk e => (Hlt.out kk e).1)
              have M := HM3.out
              rw [Int.sub_self, Int.zero_add] at M
              exact ⟨⟨l2 ++ [⟨((q2 : Int) + 1), j, 0, r2⟩], a3, cap3, q2 + 1, r2, 0, by rw [hv3], rfl, rfl, rfl, by omega, by omega, M, O3, bel3⟩, by simp only [intOf]; omega⟩
          · have hzz : (z2 == L) = false := by rw [beq_eq_false_iff_ne]; omega
            have hzlt : z2 < L := by omega
            have HM2 := Lib.hid hM2
            clear hM2
            rcases Int.lt_or_le (L - z2) r2 with hk | hk
            · have M3 := HM2.out.step hr (by omega) hlt (by rw [HT.out]; exact h1) (L - z2) (by omega)
              have HM3 := Lib.hid M3
              clear M3
              go_wp2_with (at_builtin; refine wpList_append_own _ rfl _ _ 23 rfl w.heap.size 80 i0 (.agg #[.int .i64 0, .int .i64 0, .int .i64 0, .int .i64 0]) 4 32 Tryd.underlying23 hi hz0 hz1 hz2 rfl (by decide) (.slice al2 l2.length capl2) l2.length (flat l2) rfl (World.ownsRow.alloc hown _) ⟨wr.heap.size, 0, none⟩ 1 1 (flat [(⟨(q2 : Int), j, z2, z2 + (L - z2)⟩ : Pc)]) rfl rfl (pc_cells_new _ _ _) (flat_one _) (by unfold maxLen; omega) (by omega) (by simp; omega) ?_; intro v2 w2 own2 gr2 _)
              obtain ⟨a3, cap3, hv3, O3⟩ := PcOwn.of (l := l2 ++ [(⟨(q2 : Int), j, z2, z2 + (L - z2)⟩ : Pc)]) (by rw [flat_append]; exact own2)
              have bel3 : Below w.heap.size w w2 := (Hbel.out.alloc hwsz _).grown gr2 (by simp; omega) (fun kk e => (Hlt.out kk e).1)
              have M := HM3.out
              exact ⟨⟨l2 ++ [⟨(q2 : Int), j, z2, z2 + (L - z2)⟩], a3, cap3, q2, z2 + (L - z2), r2 - (L - z2), by rw [hv3], rfl, rfl, rfl, by omega, by omega, M, O3, bel3⟩, by simp only [intOf]; omega⟩
            · have M3 := HM2.out.step hr (by omega) hlt (by rw [HT.out]; exact h1) r2 (by omega)
              have HM3 := Lib.hid M3
              clear M3
              go_wp2_with (at_builtin; refine wpList_append_own _ rfl _ _ 23 rfl w.heap.size 80 i0 (.agg #[.int .i64 0, .int .i64 0, .int .i64 0, .int .i64 0]) 4 32 Tryd.underlying23 hi hz0 hz1 hz2 rfl (by decide) (.slice al2 l2.length capl2) l2.length (flat l2) rfl (World.ownsRow.alloc hown _) ⟨wr.heap.size, 0, none⟩ 1 1 (flat [(⟨(q2 : Int), j, z2, z2 + r2⟩ : Pc)]) rfl rfl (pc_cells_new _ _ _) (flat_one _) (by unfold maxLen; omega) (by omega) (by simp; omega) ?_; intro v2 w2 own2 gr2 _)
              obtain ⟨a3, cap3, hv3, O3⟩ := PcOwn.of (l := l2 ++ [(⟨(q2 : Int), j, z2, z2 + r2⟩ : Pc)]) (by rw [flat_append]; exact own2)
              have bel3 : Below w.heap.size w w2 := (Hbel.out.alloc hwsz _).grown gr2 (by simp; omega) (fun kk e => (Hlt.out kk e).1)
              have M := HM3.out
              rw [Int.sub_self] at M
              exact ⟨⟨l2 ++ [⟨(q2 : Int), j, z2, z2 + r2⟩], a3, cap3, q2, z2 + r2, 0, by rw [hv3], rfl, rfl, rfl, by omega, by omega, M, O3, bel3⟩, by simp only [intOf]; omega⟩
        · have hr0 : r2 = 0 := by omega
          subst hr0
          have HM2 := Lib.hid hM2
          have HW2 := Lib.hid hW2
          clear hM2 hW2
          go_wp2
          go_roundw
          case rel => exact ⟨j + 1, l2, al2, capl2, q2, z2, rfl, rfl, rfl, by go_num, by omega, Or.inr ⟨j, rfl, HM2.out⟩, HW2.out⟩
          case measure => simp only [intOf]; omega
    · have hjn : j = times.length := by omega
      have HB := Lib.hid hB
      have HW := Lib.hid hW
      have Hjn := Lib.hid hjn
      have h3 : (times.length : Int) ≤ j := by omega
      clear hB hW hjn
      go_wp2
      go_ret2
      refine ⟨al, capl, l, rfl, HW.out.own, HW.out.bel, ?_⟩
      rcases HB.out with ⟨h0, h1, h2, rfl⟩ | ⟨i, hi, M⟩
      · have hn : times = [] := List.eq_nil_of_length_eq_zero (by rw [← Hjn.out]; exact h0)
        subst hn
        exact ⟨plan_nil m L, by simp only [List.length_nil]; omega, fun _ => rfl, fun h => by simp at h, 0, WrapPlain.Reach.zero _ _⟩
      · have hin : i + 1 = times.length := by rw [← hi]; exact Hjn.out
        have hLp := HL0.out (by omega)
        exact ⟨M.plan hin HTL.out HmL.out hLp, M.count hin HmL.out hLp, fun h => by omega, fun _ => hLp, _, M.all hin⟩
end Go.Proofs.YtomgcfjdmoefgaaDoor
