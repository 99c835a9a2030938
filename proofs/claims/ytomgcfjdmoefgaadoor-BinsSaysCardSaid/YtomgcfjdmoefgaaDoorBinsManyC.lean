/- WALK: bins.Many: how many boxes are used, and whether one is too full. -/
import Derived.Test.YtomgcfjdmoefgaaDoorBinsWalks3
import Derived.Test.YtomgcfjdmoefgaaDoorPackPlain
import Derived.Maps.OwnSet
import Derived.Maps.OwnOps
import Derived.Maps.RangeWalk
namespace Go.Proofs.YtomgcfjdmoefgaaDoor
open Go Go.RowKit BinsPlain PackPlain Go.Maps

theorem intKey : Keyed Tryd.prog 3 := int_keyed Tryd.underlying3
theorem intZero (w : World) : (zeroValue 3).run Tryd.prog w = .ok (.int .i64 0) w := by kernel_rfl

/-- the map's datum behind k things -/
structure MapIs (sizes ins : List Int) (k : Nat) (D : DataW Unit) : Prop where
  tidy : Tidy D
  has : ∀ c, Maps.has D (.int .i64 c) = decide (c ∈ keysA ins k)
  at_ : ∀ c z, c ∈ keysA ins k → D.atKey (.int .i64 c) z = .lit (.int .i64 (loadA sizes ins k c))
  size : Maps.size D = (keysA ins k).length
theorem MapIs.start (sizes ins : List Int) : MapIs sizes ins 0 (.map []) :=
  ⟨tidy_empty, fun c => by simp [Maps.has, keysA, revRange, keysL], fun c z h => by simp [keysA, revRange, keysL] at h, rfl⟩
theorem MapIs.read {sizes ins : List Int} {k : Nat} {D : DataW Unit} (h : MapIs sizes ins k D) {x c : Int} (hat : D.atKey (.int .i64 x) (.lit (.int .i64 0)) = .lit (.int .i64 c)) : c = loadA sizes ins k x := by
  by_cases hx : x ∈ keysA ins k
  · rw [h.at_ x _ hx] at hat
    simpa using hat.symm
  · rw [atKey_of_not_has (by rw [h.has]; simpa using hx)] at hat
    rw [loadA_out _ _ _ _ hx]
    simpa using hat.symm
theorem MapIs.put {sizes ins : List Int} {k : Nat} {D : DataW Unit} (h : MapIs sizes ins k D) :
    MapIs sizes ins (k + 1) (D.put (.int .i64 (ins.getD k 0)) (.lit (.int .i64 (loadA sizes ins k (ins.getD k 0) + sizes.getD k 0)))) := by
  have hk : WideAt.IsKeyLit (.int .i64 (ins.getD k 0)) := trivial
  have hm : ∀ c, c ∈ keysA ins (k + 1) ↔ c ∈ keysA ins k ∨ c = ins.getD k 0 := fun c => by
    rw [mem_keysA, mem_keysA]
    constructor
    · rintro ⟨i, hi, e⟩
      rcases Nat.lt_or_ge i k with h1 | h1
      · exact Or.inl ⟨i, h1, e⟩
      · have : i = k := by omega
        subst this; exact Or.inr e.symm
    · rintro (⟨i, hi, e⟩ | e)
      · exact ⟨i, by omega, e⟩
      · exact ⟨k, by omega, e.symm⟩
  refine ⟨h.tidy.put hk _, fun c => ?_, fun c z hc => ?_, ?_⟩
  · by_cases e : c = ins.getD k 0
    · subst e
      rw [has_put_same h.tidy.isMap hk, eq_comm, decide_eq_true_eq, hm]; exact Or.inr rfl
    · rw [has_put_other (by simpa using e), h.has]
      exact decide_eq_decide.2 (by rw [hm]; exact ⟨Or.inl, fun h => h.resolve_right e⟩)
  · rw [loadA_succ]
    by_cases e : c = ins.getD k 0
    · subst e
      rw [atKey_put_same h.tidy.isMap hk, if_pos rfl]
    · rw [atKey_put_other (by simpa using e), if_neg (fun e' => e e'.symm), Int.add_zero]
      exact h.at_ c z (((hm c).1 hc).resolve_right e)
  · rw [size_put h.tidy, h.has, keysA_succ, h.size]
    by_cases e : ins.getD k 0 ∈ keysA ins k
    · rw [if_pos e, if_pos (by simpa using e)]
    · rw [if_neg e, if_neg (by simpa using e)]

/-- what Many tells, with the error's number -/
structure ManyResC (sizes : List Int) (room : Int) (ins : List Int) (n er : Int) : Prop where
  good : er = 0 ↔ Packs sizes room ins
  many : er = 0 → n = ((keysA ins sizes.length).length : Nat)
  none : er ≠ 0 → n = 0
  code : er ≠ 0 → (ins.length ≠ sizes.length ∧ er = 3) ∨ (ins.length = sizes.length ∧ (∃ i, i < sizes.length ∧ ¬ (0 ≤ ins.getD i 0 ∧ ins.getD i 0 ≤ 15)) ∧ er = 1) ∨ (ins.length = sizes.length ∧ (∀ i, i < sizes.length → 0 ≤ ins.getD i 0 ∧ ins.getD i 0 ≤ 15) ∧ er = 6)
/-- what the first loop keeps -/
structure ManyRel (sizes : List Int) (room : Int) (ins : List Int) (w w1 : World) (k : Nat) (wr : World) : Prop where
  hk : k ≤ sizes.length
  own : ∃ D, MapIs sizes ins k D ∧ wr.ownsMap Tryd.prog 3 (plainElem Tryd.prog 3) w1.heap.size k D
  box : ∀ i, i < k → 0 ≤ ins.getD i 0 ∧ ins.getD i 0 ≤ 15
  bel : Below w1.heap.size w1 wr
  big : w1.heap.size < wr.heap.size
structure ManyRel2 (sizes : List Int) (room : Int) (ins : List Int) (D : DataW Unit) (w1 : World) (r : Nat) (wr : World) (left : Lit → Bool) (cnt : Nat) : Prop where
  rng : wr.ranges Tryd.prog 3 (plainElem Tryd.prog 3) w1.heap.size r sizes.length D left cnt
  ok : ∀ c, c ∈ keysA ins sizes.length → left (.int .i64 c) = false → loadA sizes ins sizes.length c ≤ room
  bel : Below w1.heap.size w1 wr
  big : w1.heap.size < wr.heap.size

set_option maxRecDepth 100000 in
set_option maxHeartbeats 1000000 in
theorem Many_any (sizes ins : List Int) (room : Int) (a b : Option Addr) (cap cap' : Nat) (w : World) (hx : Ints w a sizes) (hy : Ints w b ins) (hf : Fine sizes room) (hl : ins.length ≤ 9223372036854775807) :
    Calls Tryd.prog 40 #[.slice a sizes.length cap, .int .i64 room, .slice b ins.length cap'] w fun e w' => ∃ n er, e = .returned (.tuple #[.int .i64 n, errV 81 er]) ∧ ManyResC sizes room ins n er ∧ Below w.heap.size w w' := by
  have hs := hf.short
  have r1 := hf.r1
  have r2 := hf.r2
  have hchk := fun w0 (h : Ints w0 a sizes) => check_yes sizes room a cap w0 h (by omega) (fine_chk hf)
  by_cases hlen : ins.length = sizes.length
  · have hne0 : ((ins.length : Int) != (sizes.length : Int)) = false := by simp [hlen]
    have hmm := @run_makeMap Tryd.prog
    have Hlen := Lib.hid hlen
    clear hlen
    go_enter Tryd.func40, Tryd.ntmps40
    go_wp2_with fail
    refine (hchk _ hx).mono ?_
    rintro e w1 ⟨rfl, rfl⟩
    go_wp2
    obtain ⟨w1, hw1⟩ : ∃ w1, w1 = w := ⟨_, rfl⟩
    go_loopw [29] (fun idx wr => ∃ k : Nat, idx = .int .i64 k ∧ ManyRel sizes room ins w w k wr) (fun i _ => ins.length - (intOf i).toNat)
    case atStart => exact ⟨0, rfl, Nat.zero_le _, ⟨_, MapIs.start sizes ins, World.ownsMap_made _ _ _ _⟩, by omega, (Below.refl _ _).alloc (Nat.le_refl _) _, by simp⟩
    case round =>
      obtain ⟨k, rfl, R⟩ := hrel
      rcases Nat.lt_or_ge k ins.length with hlt | hge
      · have hks : k < sizes.length := by rw [← Hlen.out]; exact hlt
        obtain ⟨bb, off, rfl, hcs⟩ := hx.open (by omega)
        obtain ⟨bi, offi, rfl, hci⟩ := hy.open (by omega)
        have hck := hcs k hks
        have hik := hci k hlt
        have h1 : bb < w.heap.size := World.block_lt_of_cell? w _ hck
        have h2 : bi < w.heap.size := World.block_lt_of_cell? w _ hik
        rw [← R.bel.cell (p := ⟨bb, off + k, none⟩) h1] at hck
        rw [← R.bel.cell (p := ⟨bi, offi + k, none⟩) h2] at hik
        clear hcs hci
        obtain ⟨D, hD, hown⟩ := R.own
        have hsk := hf.all _ (getD_mem sizes k hks)
        have hput := hD.put
        have hpos := loadA_nonneg sizes ins (fun n hn => (hf.all n hn).1) k (ins.getD k 0) (by omega)
        have htot := (take_sum_le sizes (fun n hn => by have := (hf.all n hn).1; omega) k).2
        have hsum : sizes.sum ≤ 1000 * 16 := by
          have := sum_le_const sizes 1000 (fun n hn => by have := (hf.all n hn).2; omega)
          omega
        have hread := fun c => hD.read (x := ins.getD k 0) (c := c)
        have HR := Lib.hid R
        have HD := Lib.hid hD
        have hbox := R.box
        have Hbox := Lib.hid hbox
        clear R hD hbox
        have hik' : ins.getD k 0 = ins.getD k 0 := rfl
        generalize hkk : ins.getD k 0 = kk at hik hput hpos hread
        generalize hss : sizes.getD k 0 = ss at hck hput hsk
        generalize hld : loadA sizes ins k kk = ld at hput hpos hread
        have Hkk := Lib.hid hkk
        clear hkk hss hld hik'
        rcases Int.lt_or_le kk 0 with hk0 | hk0
        · go_wp2_with fail
          refine (within_no _ _ _ (Or.inl hk0) _).mono ?_
          rintro e w2 ⟨rfl, rfl⟩
          go_wp2
          go_ret2
          refine ⟨0, 1, rfl, ⟨⟨by omega, fun P => ?_⟩, by omega, fun _ => rfl, fun _ => .inr (.inl ⟨Hlen.out, ⟨k, hks, by rw [Hkk.out]; omega⟩, rfl⟩)⟩, HR.out.bel⟩
          have := (P.box k hks).1; rw [Hkk.out] at this; omega
        rcases Int.lt_or_le 15 kk with hk1 | hk1
        · go_wp2_with fail
          refine (within_no _ _ _ (Or.inr hk1) _).mono ?_
          rintro e w2 ⟨rfl, rfl⟩
          go_wp2
          go_ret2
          refine ⟨0, 1, rfl, ⟨⟨by omega, fun P => ?_⟩, by omega, fun _ => rfl, fun _ => .inr (.inl ⟨Hlen.out, ⟨k, hks, by rw [Hkk.out]; omega⟩, rfl⟩)⟩, HR.out.bel⟩
          have := (P.box k hks).2; rw [Hkk.out] at this; omega
        go_wp2_with fail
        refine (within_yes _ _ _ hk0 hk1 _).mono ?_
        rintro e w2 ⟨rfl, rfl⟩
        have hkey : keyOf Tryd.prog 3 (.int .i64 kk) = some (.int .i64 kk) := keyOf_int_mk Tryd.underlying3 (WalkArith.wf_i64 (by omega))
        obtain ⟨c, hrun, hat, hwc⟩ := (World.ownsMap.drew hown).lookup_int intKey Tryd.underlying98 Tryd.underlying3 (intZero _) hkey
        have hc : c = ld := hread c hat
        subst hc
        clear hat hwc hread
        obtain ⟨w3, hupd, hown3, hg3⟩ := World.ownsMap.update (World.ownsMap.drew hown) intKey Tryd.underlying98 (by unfold maxLen; omega) hkey (plainElem_int Tryd.underlying3 (a := c + ss) (WalkArith.wf_i64 (by omega)))
        have bel3 : Below w.heap.size w w3 := (HR.out.bel.drew).grown hg3 HR.out.bel.size (fun j hj => by cases hj; exact Nat.le_refl _)
        have big3 : w.heap.size < w3.heap.size := Nat.lt_of_lt_of_le HR.out.big hg3.size
        have Hown3 := Lib.hid hown3
        have Hput := Lib.hid hput
        clear hown3 hput hown hg3
        go_wp2
        go_region
        go_wp2
        go_roundw
        case rel =>
          refine ⟨k + 1, by go_num, by omega, ⟨_, Hput.out, Hown3.out⟩, fun i hi => ?_, bel3, big3⟩
          rcases Nat.lt_or_ge i k with h | h
          · exact Hbox.out i h
          · have : i = k := by omega
            subst this; rw [Hkk.out]; omega
        case measure => simp only [intOf]; omega
      · have hkn : k = sizes.length := by have := R.hk; have := Hlen.out; omega
        subst hkn
        obtain ⟨D, hD, hown⟩ := R.own
        have hbox := R.box
        have Hbox := Lib.hid hbox
        have hbel := R.bel
        have hbig := R.big
        have HD := Lib.hid hD
        clear R hD hbox
        have hsz : sizes.length ≤ maxLen := by unfold maxLen; omega
        have h3 : decide (sizes.length < ins.length) = false := by simp; omega
        go_wp2_with (first
          | (at_range; refine wpList_range_own _ rfl _ 98 rfl 3 3 intKey Tryd.underlying98 _ w.heap.size sizes.length D rfl hown ?_; intro w0 hrg0 hg0 hs0)
          | go_in)
        go_frame
        obtain ⟨q, hq⟩ : ∃ q, q = wr.heap.size := ⟨_, rfl⟩
        rw [← hq]
        rw [← hq] at hrg0 hs0 hbig
        have bel0 : Below w.heap.size w w0 := hbel.grown hg0 (by omega) (fun j hj => by cases hj)
        clear hq
        go_loopw [49] (fun _ wx => ∃ (left : Lit → Bool) (cnt : Nat), ManyRel2 sizes room ins D w q wx left cnt) (fun _ wx => wx.rangeLeft w.heap.size q)
        case atStart =>
          refine ⟨_, _, hrg0, fun c hc hl => ?_, bel0, by omega⟩
          rw [HD.out.has] at hl
          simp [hc] at hl
        case round =>
          obtain ⟨left, cnt, R⟩ := hrel
          have hrg := R.rng
          have HR := Lib.hid R
          clear R
          go_wp2_with (first
            | (at_next; refine wpList_next_ranges_ii _ rfl _ rfl 3 3 .i64 .i64 intKey Tryd.underlying3 Tryd.underlying3 w.heap.size q sizes.length _ _ _ rfl hrg ?_ ?_)
            | go_in)
          · intro _ hl0
            have hlen := (World.ranges.owns hrg).len Tryd.underlying98
            rw [HD.out.size] at hlen
            go_wp2
            go_ret2
            exact ⟨_, 0, rfl, ⟨⟨fun _ => ⟨Hlen.out, Hbox.out, fun c hc => HR.out.ok c hc (hl0 _)⟩, fun _ => rfl⟩, fun _ => rfl, fun h => absurd rfl h, fun h => absurd rfl h⟩, HR.out.bel⟩
          · intro x c w2 cnt1 hwx hwc hlx hat hrg1 hlt hg1 hs1 hen
            have hxk : x ∈ keysA ins sizes.length := by
              have := has_true_of_atKey hat
              rw [HD.out.has] at this
              simpa using this
            have hcl : c = loadA sizes ins sizes.length x := HD.out.read (hat _)
            have bel2 := HR.out.bel.grown hg1 (Nat.le_of_lt HR.out.big) (fun j hj => by cases hj; omega)
            have Hcl := Lib.hid hcl
            have Hat := Lib.hid hat
            have hc0 := hwc
            clear hcl hat
            rcases Int.lt_or_le room c with hcr | hcr
            · go_wp2
              go_ret2
              refine ⟨0, 6, rfl, ⟨⟨by omega, fun P => ?_⟩, by omega, fun _ => rfl, fun _ => .inr (.inr ⟨Hlen.out, Hbox.out, rfl⟩)⟩, bel2⟩
              have := P.load x hxk
              rw [← Hcl.out] at this; omega
            · go_wp2
              go_roundw
              case rel =>
                refine ⟨_, cnt1, hrg1, fun y hy hl => ?_, bel2, by have := HR.out.big; omega⟩
                by_cases e : y = x
                · subst e; rw [← Hcl.out]; exact hcr
                · refine HR.out.ok y hy ?_
                  have hns : (Lit.int .i64 y).sameKey (.int .i64 x) = false := sameKey_ne (by simpa using e)
                  simpa [hns] using hl
              case measure => rw [hrg1.left_eq, hrg.left_eq]; exact hlt
  · have hne0 : ((ins.length : Int) != (sizes.length : Int)) = true := by simp; omega
    have Hlen := Lib.hid hlen
    clear hlen
    go_enter Tryd.func40, Tryd.ntmps40
    go_wp2_with fail
    refine (hchk _ hx).mono ?_
    rintro e w1 ⟨rfl, rfl⟩
    go_wp2
    go_ret2
    exact ⟨0, 3, rfl, ⟨⟨by omega, fun P => absurd P.len Hlen.out⟩, by omega, fun _ => rfl, fun _ => .inl ⟨Hlen.out, rfl⟩⟩, Below.refl _ _⟩

theorem Many_no (sizes : List Int) (room : Int) (a b : Option Addr) (cap n' cap' : Nat) (w : World) (hx : Ints w a sizes) (hl : sizes.length ≤ 9223372036854775807) (h : chk sizes room ≠ 0) :
    Calls Tryd.prog 40 #[.slice a sizes.length cap, .int .i64 room, .slice b n' cap'] w fun e w' => e = .returned (.tuple #[.int .i64 0, .iface 81 (.int .i64 (chk sizes room))]) ∧ w = w' := by
  go_enter Tryd.func40, Tryd.ntmps40
  go_wp2_with fail
  refine (check_no sizes room a cap _ hx hl h).mono ?_
  rintro e w1 ⟨rfl, rfl⟩
  go_wp2
  go_ret2
  exact ⟨rfl, rfl⟩
end Go.Proofs.YtomgcfjdmoefgaaDoor
