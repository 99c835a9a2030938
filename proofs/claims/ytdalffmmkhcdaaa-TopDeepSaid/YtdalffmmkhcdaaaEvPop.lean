/- WALK: core.Heap[sim.planned].Pop. -/
import Derived.Test.YtdalffmmkhcdaaaEvPush
import Derived.Laws.Rows
set_option linter.unusedVariables false
set_option linter.unusedSimpArgs false
namespace Go.Proofs.Ytdalffmmkhcdaaa
open Go Go.RowKit SimPlain HeapPlain

theorem EvOwn.cap {w : World} {B : Nat} {a : Option Addr} {cap : Nat} {l : List Ev} (h : EvOwn w B a cap l) : l.length ≤ cap ∧ cap ≤ maxLen := by
  rcases h.2 with ⟨h', hz⟩ | ⟨g, cap', cur, h', hb, hg, hc, hm, _⟩
  · simp only [Value.slice.injEq] at h'
    unfold maxLen
    omega
  · simp only [Value.slice.injEq, true_and] at h'
    obtain ⟨_, rfl⟩ := h'
    exact ⟨hc, hm⟩
/-- the call's two cells: what is told, and the first one -/
structure RX (w : World) (br bx : Nat) (x : Ev) : Prop where
  r : w.heap[br]? = some (.cells #[.int .i64 0, .int .i64 0, .int .i64 0] 54 (0, 0))
  x : w.heap[bx]? = some (.cells #[.int .i64 x.t, .int .i64 x.id, .int .i64 x.s] 54 (0, 0))
theorem RX.x0 {w : World} {br bx : Nat} {x : Ev} (h : RX w br bx x) : w.cell? ⟨bx, 0, none⟩ = some (.int .i64 x.t) := by have := h.x; simp [World.cell?, this]
theorem RX.x1 {w : World} {br bx : Nat} {x : Ev} (h : RX w br bx x) : w.cell? ⟨bx, 1, none⟩ = some (.int .i64 x.id) := by have := h.x; simp [World.cell?, this]
theorem RX.x2 {w : World} {br bx : Nat} {x : Ev} (h : RX w br bx x) : w.cell? ⟨bx, 2, none⟩ = some (.int .i64 x.s) := by have := h.x; simp [World.cell?, this]
theorem RX.r0 {w : World} {br bx : Nat} {x : Ev} (h : RX w br bx x) : w.cell? ⟨br, 0, none⟩ = some (.int .i64 0) := by have := h.r; simp [World.cell?, this]
theorem RX.r1 {w : World} {br bx : Nat} {x : Ev} (h : RX w br bx x) : w.cell? ⟨br, 1, none⟩ = some (.int .i64 0) := by have := h.r; simp [World.cell?, this]
theorem RX.r2 {w : World} {br bx : Nat} {x : Ev} (h : RX w br bx x) : w.cell? ⟨br, 2, none⟩ = some (.int .i64 0) := by have := h.r; simp [World.cell?, this]
theorem RX.f {w : World} {br bx : Nat} {x : Ev} (h : RX w br bx x) (o : Nat) : w.frozen? ⟨br, o, none⟩ = false := by have := h.r; simp [World.frozen?, this]
theorem RX.only {w w' : World} {br bx : Nat} {x : Ev} {own : Nat → Prop} (h : RX w br bx x) (o : Only w w' own) (h1 : ¬ own br) (h2 : ¬ own bx) : RX w' br bx x :=
  ⟨(o.block br (lt_of_block h.r) h1).trans h.r, (o.block bx (lt_of_block h.x) h2).trans h.x⟩
/-- the result laid into its cell -/
def retW (w : World) (br : Nat) (x : Ev) : World := ((w.setCell ⟨br, 0, none⟩ (.int .i64 x.t)).setCell ⟨br, 1, none⟩ (.int .i64 x.id)).setCell ⟨br, 2, none⟩ (.int .i64 x.s)
theorem Only.ret (w : World) (br : Nat) (x : Ev) : Only w (retW w br x) (fun k => k = br) := by
  have s : ∀ (W : World) (o : Nat) (x : Value), Only W (W.setCell ⟨br, o, none⟩ x) (fun k => k = br) := fun W o x => Only.setCell W ⟨br, o, none⟩ x (fun k => k = br) rfl
  exact ((s _ _ _).trans (s _ _ _) (fun _ _ c => c)).trans (s _ _ _) (fun _ _ c => c)
theorem RX.ret {w : World} {br bx : Nat} {x y : Ev} (h : RX w br bx x) : (retW w br y).heap[br]? = some (.cells #[.int .i64 y.t, .int .i64 y.id, .int .i64 y.s] 54 (0, 0)) :=
  heap_setCell_same _ _ _ _ _ _ (heap_setCell_same _ _ _ _ _ _ (heap_setCell_same _ _ _ _ _ _ h.r))
theorem HeapE.ret {w : World} {B H cap br : Nat} {a : Option Addr} {l : List Ev} (h : HeapE w B H a cap l) (x : Ev) (hbr : ¬ Touch H a cap l.length br) : HeapE (retW w br x) B H a cap l :=
  h.only ((Only.ret w br x).mono (fun _ _ e => e ▸ hbr))
theorem Only.retd {w w' : World} {own : Nat → Prop} {br : Nat} (h : Only w w' own) (x : Ev) (hbr : w.heap.size = br) : Only w (retW w' br x) own :=
  h.trans (Only.ret w' br x) (fun j hj e => by omega)
/-- the last one laid first, and the row a place shorter -/
theorem HeapE.popped {w : World} {B H g cap n : Nat} {l : List Ev} (h : HeapE w B H (some ⟨g, 0, none⟩) cap l) (hgH : g ≠ H) (hn : l.length = n + 1) {z : Ev} (hz : l.getD n e0 = z) :
    HeapE ((((w.setCell ⟨g, 0, none⟩ (.int .i64 z.t)).setCell ⟨g, 1, none⟩ (.int .i64 z.id)).setCell ⟨g, 2, none⟩ (.int .i64 z.s)).setCell ⟨H, 0, none⟩ (.slice (some ⟨g, 0, none⟩) n cap)) B H (some ⟨g, 0, none⟩) cap ((l.set 0 z).take n) := by
  subst hz
  have h0 : 0 < l.length := by omega
  have h1 : EvOwn (((w.setCell ⟨g, 0, none⟩ (.int .i64 (l.getD n e0).t)).setCell ⟨g, 1, none⟩ (.int .i64 (l.getD n e0).id)).setCell ⟨g, 2, none⟩ (.int .i64 (l.getD n e0).s)) B (some ⟨g, 0, none⟩) cap (l.set 0 (l.getD n e0)) := by
    have := h.row.set 0 h0 (l.getD n e0)
    rw [Nat.zero_mul] at this
    exact this
  have hlen : ((l.set 0 (l.getD n e0)).take n).length = n := by rw [List.length_take, List.length_set]; omega
  have hne : ∀ (W : World) (o : Nat) (x : Value), (W.setCell ⟨g, o, none⟩ x).heap[H]? = W.heap[H]? := fun W o x => heap_setCell_other W ⟨g, o, none⟩ H x (fun c => hgH c.symm)
  refine ⟨h.hb, ?_, (h1.take n (by rw [List.length_set]; omega) (by rw [List.length_set]; omega)).same (fun k e => heap_setCell_other _ _ _ _ (fun c => ?_)), fun k e => ?_⟩
  · rw [hlen]
    have h2 : ((((w.setCell ⟨g, 0, none⟩ (.int .i64 (l.getD n e0).t)).setCell ⟨g, 1, none⟩ (.int .i64 (l.getD n e0).id)).setCell ⟨g, 2, none⟩ (.int .i64 (l.getD n e0).s))).heap[H]? = some (.cells #[.slice (some ⟨g, 0, none⟩) l.length cap, lessE] 70 (0, 0)) := by
      rw [hne, hne, hne]; exact h.h
    exact heap_setCell_same _ _ _ _ _ _ h2
  · have : g = k := Option.some.inj e
    exact hgH (this.trans c)
  · have : g = k := Option.some.inj e
    rw [← this]; exact hgH
theorem Only.popped (w : World) (g H : Nat) (v : Value) (z : Ev) {own : Nat → Prop} (h1 : own g) (h2 : own H) : Only w ((((w.setCell ⟨g, 0, none⟩ (.int .i64 z.t)).setCell ⟨g, 1, none⟩ (.int .i64 z.id)).setCell ⟨g, 2, none⟩ (.int .i64 z.s)).setCell ⟨H, 0, none⟩ v) own := by
  have s : ∀ (W : World) (o : Nat) (x : Value), Only W (W.setCell ⟨g, o, none⟩ x) own := fun W o x => Only.setCell W ⟨g, o, none⟩ x own h1
  exact (((s _ _ _).trans (s _ _ _) (fun _ _ c => c)).trans (s _ _ _) (fun _ _ c => c)).trans (Only.setCell _ ⟨H, 0, none⟩ _ own h2) (fun _ _ c => c)
theorem HeapE.other {w w' : World} {B H cap : Nat} {a : Option Addr} {l : List Ev} {own : Nat → Prop} (h : HeapE w B H a cap l) (o : Only w w' own) (h1 : ∀ k, k < w.heap.size → Touch H a cap l.length k → ¬ own k) : HeapE w' B H a cap l :=
  h.only (o.mono fun k hk c c' => h1 k hk c' c)
/-- what Pop tells -/
def PopRes (l : List Ev) (a : Option Addr) (cap H B : Nat) (w : World) (e : Ending) (w' : World) : Prop :=
  e = .returned (evV (l.getD 0 e0)) ∧ ∃ l', (l.getD 0 e0 :: l').Perm l ∧ Heap e0 Lt l' ∧ HeapE w' B H a cap l' ∧ Only w w' (Touch H a cap l.length)
set_option maxRecDepth 100000 in
set_option maxHeartbeats 40000000 in
theorem Pop_any (l : List Ev) (a : Option Addr) (cap H B : Nat) (w : World) (hH : HeapE w B H a cap l) (hp : Heap e0 Lt l) (hl : l.length ≤ 100) (h0 : 0 < l.length) :
    Calls Try.prog 19 #[.pointer (some ⟨H, 0, none⟩)] w fun e w' => PopRes l a cap H B w e w' := by
  obtain ⟨g, rfl, _, hgl, _, hcell, hfro⟩ := hH.row.open h0
  obtain ⟨n, hn⟩ : ∃ n, l.length = n + 1 := ⟨l.length - 1, by omega⟩
  have c0 := hH.c0
  rw [hn] at c0
  obtain ⟨hcap, hcapM⟩ := hH.row.cap
  rw [hn] at hcap
  unfold maxLen at hcapM
  have hcapI : (n : Int) ≤ (cap : Int) := by omega
  have f0 := hH.free 0
  have hHl := hH.lt
  have hgH : g ≠ H := hH.apart g rfl
  have hne1 : ¬ g = H := hgH
  have hne2 : ¬ H = g := fun e => hgH e.symm
  obtain ⟨v0, v1, v2⟩ := hcell 0 h0
  obtain ⟨n0, n1, n2⟩ := hcell n (by omega)
  have fr0 := hfro 0
  have fr1 := hfro 1
  have fr2 := hfro 2
  have HH := Lib.hid hH
  have Hp := Lib.hid hp
  have Hn := Lib.hid hn
  generalize hzn : l.getD n e0 = zn at n0 n1 n2
  generalize hx0 : l.getD 0 e0 = x0 at v0 v1 v2
  have Hzn := Lib.hid hzn
  have Hx0 := Lib.hid hx0
  rw [Nat.zero_mul] at v0
  have v1 : w.cell? ⟨g, 1, none⟩ = some (.int .i64 x0.id) := by simpa using v1
  have v2 : w.cell? ⟨g, 2, none⟩ = some (.int .i64 x0.s) := by simpa using v2
  have nI : (n : Int) < (n : Int) + 1 := by omega
  have zI : (0 : Int) < (n : Int) + 1 := by omega
  have n100 : (n : Int) ≤ 100 := by omega
  unfold PopRes
  rw [hx0]
  clear hzn hx0 hn hH hp hcell hfro
  go_enter Try.func19, Try.ntmps19
  go_wp2
  have hW : Only w ((w.alloc (.cells #[.int .i64 0, .int .i64 0, .int .i64 0] 54)).alloc (.cells #[.int .i64 x0.t, .int .i64 x0.id, .int .i64 x0.s] 54)) (fun _ => False) :=
    (Only.alloc _ _ (fun _ => False)).trans (Only.alloc _ _ (fun _ => False)) (fun _ _ c => c)
  have hXX : RX ((w.alloc (.cells #[.int .i64 0, .int .i64 0, .int .i64 0] 54)).alloc (.cells #[.int .i64 x0.t, .int .i64 x0.id, .int .i64 x0.s] 54)) w.heap.size (w.heap.size + 1) x0 := by
    refine ⟨?_, ?_⟩
    · rw [Below.heap_alloc _ _ _ (by simp)]; exact heap_alloc_new _ _
    · have := heap_alloc_new (w.alloc (.cells #[.int .i64 0, .int .i64 0, .int .i64 0] 54)) (.cells #[.int .i64 x0.t, .int .i64 x0.id, .int .i64 x0.s] 54)
      simpa using this
  generalize (w.alloc (.cells #[.int .i64 0, .int .i64 0, .int .i64 0] 54)).alloc (.cells #[.int .i64 x0.t, .int .i64 x0.id, .int .i64 x0.s] 54) = W at hW hXX ⊢
  have hbr : w.heap.size ≤ w.heap.size := Nat.le_refl _
  have hbx : w.heap.size ≤ w.heap.size + 1 := Nat.le_succ _
  have hbrx : w.heap.size ≠ w.heap.size + 1 := by omega
  generalize hgb : w.heap.size = br at hbr hbx hXX hbrx ⊢
  generalize br + 1 = bx at hbx hXX hbrx ⊢
  have Hgb := Lib.hid hgb
  rw [← hgb] at hbr hbx
  have HW := Lib.hid hW
  have hEW := HH.out.only (hW.mono (fun _ _ c => c.elim))
  have HEW := Lib.hid hEW
  have HXW := Lib.hid hXX
  have c0 : W.cell? ⟨H, 0, none⟩ = some (.slice (some ⟨g, 0, none⟩) (n + 1) cap) := by have := hEW.c0; rw [Hn.out] at this; exact this
  have f0 := hEW.free 0
  have gW := hW.block g hgl (fun c => c)
  have v0 := (World.cell?_of_block (a := ⟨g, 0, none⟩) gW).trans v0
  have v1 := (World.cell?_of_block (a := ⟨g, 1, none⟩) gW).trans v1
  have v2 := (World.cell?_of_block (a := ⟨g, 2, none⟩) gW).trans v2
  have n0 := (World.cell?_of_block (a := ⟨g, n * 3, none⟩) gW).trans n0
  have n1 := (World.cell?_of_block (a := ⟨g, n * 3 + 1, none⟩) gW).trans n1
  have n2 := (World.cell?_of_block (a := ⟨g, n * 3 + 2, none⟩) gW).trans n2
  have fr0 : W.frozen? ⟨g, 0, none⟩ = false := by obtain ⟨_, h1, _, _, _, _, h2⟩ := hEW.row.open h0; obtain rfl := Addr.mk.inj (Option.some.inj h1) |>.1; exact h2 0
  have fr1 : W.frozen? ⟨g, 1, none⟩ = false := by obtain ⟨_, h1, _, _, _, _, h2⟩ := hEW.row.open h0; obtain rfl := Addr.mk.inj (Option.some.inj h1) |>.1; exact h2 1
  have fr2 : W.frozen? ⟨g, 2, none⟩ = false := by obtain ⟨_, h1, _, _, _, _, h2⟩ := hEW.row.open h0; obtain rfl := Addr.mk.inj (Option.some.inj h1) |>.1; exact h2 2
  clear hW hXX hEW gW hgb
  have hgT : ∀ k, k = g → Touch H (some ⟨g, 0, none⟩) cap l.length k := fun k e => .inr (by rw [e]; rfl)
  have HgT := Lib.hid (fun (k : Nat) (_ : k < w.heap.size) (e : k = g) => hgT k e)
  have hgbr : ¬ br = g := by have := Hgb.out; omega
  have hgbx : ¬ bx = g := by have := Hgb.out; omega
  have hE3 := (HEW.out.popped hgH Hn.out Hzn.out).drewN 1
  have hO3 := ((HW.out.mono (own' := Touch H (some ⟨g, 0, none⟩) cap l.length) (fun _ _ c => c.elim)).trans (Only.popped W g H (.slice (some ⟨g, 0, none⟩) n cap) zn (hgT g rfl) (.inl rfl)) (fun _ _ c => c)).drewN 1
  have hnb : ¬ Touch H (some ⟨g, 0, none⟩) cap l.length br := fun c => by
    have hh := Hgb.out
    rcases c with c | c
    · omega
    · have : g = br := Option.some.inj c
      omega
  have hnx : ¬ Touch H (some ⟨g, 0, none⟩) cap l.length bx := fun c => by
    have hh := Hgb.out
    rcases c with c | c
    · omega
    · have : g = bx := Option.some.inj c
      omega
  have hX3 := HXW.out.only ((Only.popped W g H (.slice (some ⟨g, 0, none⟩) n cap) zn (hgT g rfl) (.inl rfl)).drewN 1) hnb hnx
  have hperm : (x0 :: (l.set 0 zn).take n).Perm l := by
    have := Dn.perm e0 Hn.out
    rw [Hzn.out, Hx0.out] at this; exact this
  have hdn : Dn e0 Lt ((l.set 0 zn).take n) 0 := by
    have := Dn.start e0 Hn.out Hp.out
    rw [Hzn.out] at this; exact this
  have hlen : ((l.set 0 zn).take n).length = n := by rw [List.length_take, List.length_set]; have := Hn.out; omega
  generalize (l.set 0 zn).take n = l0 at hE3 hperm hdn hlen
  have HE3 := Lib.hid hE3
  have HO3 := Lib.hid hO3
  have HX3 := Lib.hid hX3
  have Hperm := Lib.hid hperm
  have Hdn := Lib.hid hdn
  have Hlen := Lib.hid hlen
  have Hnb := Lib.hid hnb
  have Hnx := Lib.hid hnx
  clear hgT hE3 hO3 hX3 hperm hdn hlen hnb hnx
  go_region
  go_wp2
  clear n0 n1 n2 v0 v1 v2 fr0 fr1 fr2 c0 f0
  go_loopw [5] (fun i wr => ∃ (k : Nat) (l1 : List Ev), i = .int .i64 k ∧ k ≤ n ∧ l1.length = n ∧ (x0 :: l1).Perm l ∧ Dn e0 Lt l1 k ∧ HeapE wr B H (some ⟨g, 0, none⟩) cap l1 ∧ Only w wr (Touch H (some ⟨g, 0, none⟩) cap l.length) ∧ RX wr br bx x0) (fun i _ => n - (intOf i).toNat)
  case atStart => exact ⟨0, l0, rfl, Nat.zero_le _, Hlen.out, Hperm.out, Hdn.out, HE3.out, HO3.out, HX3.out⟩
  case round =>
    obtain ⟨k, l1, rfl, hk, hll, hp, hdn, hHr, hOr, hXr⟩ := hrel
    have e0' := hHr.c0
    rw [hll] at e0'
    have e1 : wr.cell? ⟨H, 1, none⟩ = some (.func (.func 16) #[] #[]) := hHr.c1
    have HHr := Lib.hid hHr
    have HOr := Lib.hid hOr
    have HXr := Lib.hid hXr
    have Hp1 := Lib.hid hp
    have Hll := Lib.hid hll
    have HDn := Lib.hid hdn
    rcases Nat.lt_or_ge (2 * k + 1) n with hc | hc
    · obtain ⟨g', hg', _, hgl2, _, hcell, _⟩ := hHr.row.open (by omega)
      obtain rfl : g = g' := by simpa using hg'
      have i1 : (2 * (k : Int) + 1) < (n : Int) := by omega
      have i2 : (k : Int) < (n : Int) := by omega
      clear hHr hOr hXr hp hg' hdn
      obtain ⟨y1, hy1⟩ : ∃ y, l1.getD (2 * k + 1) e0 = y := ⟨_, rfl⟩
      have Hy1 := Lib.hid hy1
      rcases Nat.lt_or_ge (2 * k + 1 + 1) n with hc2 | hc2
      · have i3 : (2 * (k : Int) + 1 + 1) < (n : Int) := by omega
        obtain ⟨y2, hy2⟩ : ∃ y, l1.getD (2 * k + 1 + 1) e0 = y := ⟨_, rfl⟩
        have Hy2 := Lib.hid hy2
        obtain ⟨t0, t1, t2⟩ := hcell (2 * k + 1) (by omega)
        obtain ⟨s0, s1, s2⟩ := hcell (2 * k + 1 + 1) (by omega)
        rw [hy1] at t0 t1 t2
        rw [hy2] at s0 s1 s2
        have hC := sooner_any y2 y1
        unfold evV at hC
        have HC := Lib.hid hC
        have hwr : IntKind.i64.wrap (2 * (k : Int) + 1 + 1) = 2 * (k : Int) + 1 + 1 := IntWalk.i64_in _ (by omega)
        have z1 : (0 : Int) ≤ 2 * (k : Int) + 1 := by omega
        have z2 : (2 * (k : Int) + 1).toNat = 2 * k + 1 := by omega
        have z3 : (2 * (k : Int) + 1 + 1).toNat = 2 * k + 1 + 1 := by omega
        have z4 : (0 : Int) ≤ 2 * (k : Int) + 1 + 1 := by omega
        clear hC hy1 hy2 hcell hll
        go_upto_region 9 with fail
        go_still_tail 24, (by kernel_rfl)
        change wpList _ _ _ _ _ wr.drew
        go_wp2_with fail
        refine (HC.out _).mono ?_
        rintro e w4 ⟨rfl, hw4⟩
        have hO4 : Only wr w4 (fun _ => False) := by
          rw [hw4]
          exact (((Only.refl wr _).drewN 1).trans (Only.alloc _ _ (fun _ => False)) (fun _ _ c => c)).trans (Only.alloc _ _ (fun _ => False)) (fun _ _ c => c)
        have HQ := Lib.hid (HHr.out.only (hO4.mono (fun _ _ c => c.elim)))
        have OQ := Lib.hid (HOr.out.trans hO4 (fun _ _ c => c.elim))
        have XQ := Lib.hid (HXr.out.only hO4 (fun c => c) (fun c => c))
        clear hw4 hO4 HHr HOr HXr t0 t1 t2 s0 s1 s2 e0' e1 HC hgl2 z1 z2 z3 z4
        generalize hwq : w4 = wq at HQ OQ XQ ⊢
        clear hwq w4
        cases hb1 : ltB y2 y1 with
        | false =>
          have HB1 := Lib.hid hb1
          clear hb1
          have hltc : 2 * k + 1 < l1.length := by have := Hll.out; omega
          have hltk : k < l1.length := by have := Hll.out; omega
          obtain ⟨gq, hgq, _, hglq, _, hcellq, hfrq⟩ := HQ.out.row.open (by omega)
          obtain rfl : g = gq := by simpa using hgq
          have q0 := HQ.out.c0
          rw [Hll.out] at q0
          have q1 : wq.cell? ⟨H, 1, none⟩ = some (.func (.func 16) #[] #[]) := HQ.out.c1
          obtain ⟨a0, a1, a2⟩ := hcellq (2 * k + 1) hltc
          obtain ⟨u0, u1, u2⟩ := hcellq k hltk
          rw [Hy1.out] at a0 a1 a2
          generalize hu : l1.getD k e0 = u at u0 u1 u2
          have Hu := Lib.hid hu
          have hC := sooner_any y1 u
          unfold evV at hC
          have HC := Lib.hid hC
          have z1 : (0 : Int) ≤ 2 * (k : Int) + 1 := by omega
          have z2 : (2 * (k : Int) + 1).toNat = 2 * k + 1 := by omega
          have z3 : (2 * (k : Int) + 1 + 1).toNat = 2 * k + 1 + 1 := by omega
          have z4 : (0 : Int) ≤ 2 * (k : Int) + 1 + 1 := by omega
          have z5 : (0 : Int) ≤ (k : Int) := by omega
          clear hu hC hgq hcellq hfrq
          as_aux_lemma =>
            go_upto_region 11 with fail
            go_still_tail 18, (by kernel_rfl)
            change wpList _ _ _ _ _ wq.drew
            go_wp2_with fail
            refine (HC.out _).mono ?_
            rintro e w5 ⟨rfl, hw5⟩
            have hO5 : Only wq w5 (fun _ => False) := by
              rw [hw5]
              exact (((Only.refl wq _).drewN 1).trans (Only.alloc _ _ (fun _ => False)) (fun _ _ c => c)).trans (Only.alloc _ _ (fun _ => False)) (fun _ _ c => c)
            have hE5 := HQ.out.only (hO5.mono (fun _ _ c => c.elim))
            have HE5 := Lib.hid hE5
            have HO5 := Lib.hid (OQ.out.trans hO5 (fun _ _ c => c.elim))
            have HX5 := Lib.hid (XQ.out.only hO5 (fun c => c) (fun c => c))
            have hbg := hO5.block g hglq (fun c => c)
            have p0 := hE5.c0
            rw [Hll.out] at p0
            have b0 := (World.cell?_of_block (a := ⟨g, (2 * k + 1) * 3, none⟩) hbg).trans a0
            have b1 := (World.cell?_of_block (a := ⟨g, (2 * k + 1) * 3 + 1, none⟩) hbg).trans a1
            have b2 := (World.cell?_of_block (a := ⟨g, (2 * k + 1) * 3 + 2, none⟩) hbg).trans a2
            have d0 := (World.cell?_of_block (a := ⟨g, k * 3, none⟩) hbg).trans u0
            have d1 := (World.cell?_of_block (a := ⟨g, k * 3 + 1, none⟩) hbg).trans u1
            have d2 := (World.cell?_of_block (a := ⟨g, k * 3 + 2, none⟩) hbg).trans u2
            obtain ⟨_, hg5, _, _, _, _, hfr5⟩ := hE5.row.open (by have := Hll.out; omega)
            obtain rfl := Addr.mk.inj (Option.some.inj hg5) |>.1
            have Hfr5 := Lib.hid hfr5
            clear hw5 hO5 hE5 hbg hg5 hfr5 u0 u1 u2 a0 a1 a2 q0 q1 HC HQ OQ XQ
            cases hb : ltB y1 u with
            | false =>
              have HB := Lib.hid hb
              clear hb
              as_aux_lemma =>
                have m0 := HX5.out.x0
                have m1 := HX5.out.x1
                have m2 := HX5.out.x2
                have r0 := HX5.out.r0
                have r1 := HX5.out.r1
                have r2 := HX5.out.r2
                have s0 := HX5.out.f 0
                have s1 := HX5.out.f 1
                have s2 := HX5.out.f 2
                go_wp2
                (try simp only [Exit.inBlock, Exit.then])
                refine bodyPost_ret (results_cell_row rfl _ _ br _ _ _ _ rfl (HX5.out.ret (y := x0)) Try.underlying54 rfl (by kernel_rfl)) rfl ?_
                refine ⟨rfl, l1, Hp1.out, HDn.out.done e0 (fun c hc0 hcl hci => ?_), HE5.out.ret x0 Hnb.out, HO5.out.retd x0 Hgb.out⟩
                have hyu : ¬ Lt y1 u := of_decide_eq_false HB.out
                rw [Hu.out]
                have hc2 : c = 2 * k + 1 ∨ c = 2 * k + 1 + 1 := by omega
                rcases hc2 with rfl | rfl
                · rw [Hy1.out]; exact hyu
                · rw [Hy2.out]; exact order.ntrans _ _ _ hyu (of_decide_eq_false HB1.out)
            | true =>
              have HB := Lib.hid hb
              clear hb
              have frc0 := Hfr5.out ((2 * k + 1) * 3)
              have frc1 := Hfr5.out ((2 * k + 1) * 3 + 1)
              have frc2 := Hfr5.out ((2 * k + 1) * 3 + 2)
              have frk0 := Hfr5.out (k * 3)
              have frk1 := Hfr5.out (k * 3 + 1)
              have frk2 := Hfr5.out (k * 3 + 2)
              have ne00a : ¬ (2 * k + 1) * 3 = k * 3 := by omega
              have ne00b : ¬ k * 3 = (2 * k + 1) * 3 := by omega
              have ne01a : ¬ (2 * k + 1) * 3 = k * 3 + 1 := by omega
              have ne01b : ¬ k * 3 + 1 = (2 * k + 1) * 3 := by omega
              have ne02a : ¬ (2 * k + 1) * 3 = k * 3 + 2 := by omega
              have ne02b : ¬ k * 3 + 2 = (2 * k + 1) * 3 := by omega
              have ne10a : ¬ (2 * k + 1) * 3 + 1 = k * 3 := by omega
              have ne10b : ¬ k * 3 = (2 * k + 1) * 3 + 1 := by omega
              have ne11a : ¬ (2 * k + 1) * 3 + 1 = k * 3 + 1 := by omega
              have ne11b : ¬ k * 3 + 1 = (2 * k + 1) * 3 + 1 := by omega
              have ne12a : ¬ (2 * k + 1) * 3 + 1 = k * 3 + 2 := by omega
              have ne12b : ¬ k * 3 + 2 = (2 * k + 1) * 3 + 1 := by omega
              have ne20a : ¬ (2 * k + 1) * 3 + 2 = k * 3 := by omega
              have ne20b : ¬ k * 3 = (2 * k + 1) * 3 + 2 := by omega
              have ne21a : ¬ (2 * k + 1) * 3 + 2 = k * 3 + 1 := by omega
              have ne21b : ¬ k * 3 + 1 = (2 * k + 1) * 3 + 2 := by omega
              have ne22a : ¬ (2 * k + 1) * 3 + 2 = k * 3 + 2 := by omega
              have ne22b : ¬ k * 3 + 2 = (2 * k + 1) * 3 + 2 := by omega
              as_aux_lemma =>
                go_wp2
                go_region
                all_goals
                  go_wp2
                  go_roundw
                  case rel =>
                    refine ⟨2 * k + 1, swapL e0 l1 k (2 * k + 1), by go_num, by omega, by rw [swapL_length]; exact Hll.out, (List.Perm.cons _ (perm_swap e0 l1 k (2 * k + 1) hltk hltc)).trans Hp1.out, ?_, (HE5.out.swap hgH k (2 * k + 1) hltk hltc Hu.out Hy1.out).drewN 1, (HO5.out.trans (Only.swap w5 g k (2 * k + 1) u y1) HgT.out).drewN 1, HX5.out.only ((Only.swap w5 g k (2 * k + 1) u y1).drewN 1) hgbr hgbx⟩
                    refine HDn.out.step e0 order (by omega) hltc (by omega) ?_ (fun c hc0 hcl hci => ?_)
                    · rw [Hy1.out, Hu.out]; exact of_decide_eq_true HB.out
                    · rw [Hy1.out]
                      have hc2 : c = 2 * k + 1 ∨ c = 2 * k + 1 + 1 := by omega
                      rcases hc2 with rfl | rfl
                      · rw [Hy1.out]; exact Lt.irrefl _
                      · rw [Hy2.out]; exact of_decide_eq_false HB1.out

                  case measure => simp only [intOf]; omega
        | true =>
          have HB1 := Lib.hid hb1
          clear hb1
          have hltc : 2 * k + 1 + 1 < l1.length := by have := Hll.out; omega
          have hltk : k < l1.length := by have := Hll.out; omega
          obtain ⟨gq, hgq, _, hglq, _, hcellq, hfrq⟩ := HQ.out.row.open (by omega)
          obtain rfl : g = gq := by simpa using hgq
          have q0 := HQ.out.c0
          rw [Hll.out] at q0
          have q1 : wq.cell? ⟨H, 1, none⟩ = some (.func (.func 16) #[] #[]) := HQ.out.c1
          obtain ⟨a0, a1, a2⟩ := hcellq (2 * k + 1 + 1) hltc
          obtain ⟨u0, u1, u2⟩ := hcellq k hltk
          rw [Hy2.out] at a0 a1 a2
          generalize hu : l1.getD k e0 = u at u0 u1 u2
          have Hu := Lib.hid hu
          have hC := sooner_any y2 u
          unfold evV at hC
          have HC := Lib.hid hC
          have z1 : (0 : Int) ≤ 2 * (k : Int) + 1 := by omega
          have z2 : (2 * (k : Int) + 1).toNat = 2 * k + 1 := by omega
          have z3 : (2 * (k : Int) + 1 + 1).toNat = 2 * k + 1 + 1 := by omega
          have z4 : (0 : Int) ≤ 2 * (k : Int) + 1 + 1 := by omega
          have z5 : (0 : Int) ≤ (k : Int) := by omega
          clear hu hC hgq hcellq hfrq
          as_aux_lemma =>
            go_upto_region 11 with fail
            go_still_tail 18, (by kernel_rfl)
            change wpList _ _ _ _ _ wq.drew
            go_wp2_with fail
            refine (HC.out _).mono ?_
            rintro e w5 ⟨rfl, hw5⟩
            have hO5 : Only wq w5 (fun _ => False) := by
              rw [hw5]
              exact (((Only.refl wq _).drewN 1).trans (Only.alloc _ _ (fun _ => False)) (fun _ _ c => c)).trans (Only.alloc _ _ (fun _ => False)) (fun _ _ c => c)
            have hE5 := HQ.out.only (hO5.mono (fun _ _ c => c.elim))
            have HE5 := Lib.hid hE5
            have HO5 := Lib.hid (OQ.out.trans hO5 (fun _ _ c => c.elim))
            have HX5 := Lib.hid (XQ.out.only hO5 (fun c => c) (fun c => c))
            have hbg := hO5.block g hglq (fun c => c)
            have p0 := hE5.c0
            rw [Hll.out] at p0
            have b0 := (World.cell?_of_block (a := ⟨g, (2 * k + 1 + 1) * 3, none⟩) hbg).trans a0
            have b1 := (World.cell?_of_block (a := ⟨g, (2 * k + 1 + 1) * 3 + 1, none⟩) hbg).trans a1
            have b2 := (World.cell?_of_block (a := ⟨g, (2 * k + 1 + 1) * 3 + 2, none⟩) hbg).trans a2
            have d0 := (World.cell?_of_block (a := ⟨g, k * 3, none⟩) hbg).trans u0
            have d1 := (World.cell?_of_block (a := ⟨g, k * 3 + 1, none⟩) hbg).trans u1
            have d2 := (World.cell?_of_block (a := ⟨g, k * 3 + 2, none⟩) hbg).trans u2
            obtain ⟨_, hg5, _, _, _, _, hfr5⟩ := hE5.row.open (by have := Hll.out; omega)
            obtain rfl := Addr.mk.inj (Option.some.inj hg5) |>.1
            have Hfr5 := Lib.hid hfr5
            clear hw5 hO5 hE5 hbg hg5 hfr5 u0 u1 u2 a0 a1 a2 q0 q1 HC HQ OQ XQ
            cases hb : ltB y2 u with
            | false =>
              have HB := Lib.hid hb
              clear hb
              as_aux_lemma =>
                have m0 := HX5.out.x0
                have m1 := HX5.out.x1
                have m2 := HX5.out.x2
                have r0 := HX5.out.r0
                have r1 := HX5.out.r1
                have r2 := HX5.out.r2
                have s0 := HX5.out.f 0
                have s1 := HX5.out.f 1
                have s2 := HX5.out.f 2
                go_wp2
                (try simp only [Exit.inBlock, Exit.then])
                refine bodyPost_ret (results_cell_row rfl _ _ br _ _ _ _ rfl (HX5.out.ret (y := x0)) Try.underlying54 rfl (by kernel_rfl)) rfl ?_
                refine ⟨rfl, l1, Hp1.out, HDn.out.done e0 (fun c hc0 hcl hci => ?_), HE5.out.ret x0 Hnb.out, HO5.out.retd x0 Hgb.out⟩
                have hyu : ¬ Lt y2 u := of_decide_eq_false HB.out
                rw [Hu.out]
                have hc2 : c = 2 * k + 1 ∨ c = 2 * k + 1 + 1 := by omega
                rcases hc2 with rfl | rfl
                · rw [Hy1.out]; exact order.ntrans _ _ _ hyu (order.asym _ _ (of_decide_eq_true HB1.out))
                · rw [Hy2.out]; exact hyu
            | true =>
              have HB := Lib.hid hb
              clear hb
              have frc0 := Hfr5.out ((2 * k + 1 + 1) * 3)
              have frc1 := Hfr5.out ((2 * k + 1 + 1) * 3 + 1)
              have frc2 := Hfr5.out ((2 * k + 1 + 1) * 3 + 2)
              have frk0 := Hfr5.out (k * 3)
              have frk1 := Hfr5.out (k * 3 + 1)
              have frk2 := Hfr5.out (k * 3 + 2)
              have ne00a : ¬ (2 * k + 1 + 1) * 3 = k * 3 := by omega
              have ne00b : ¬ k * 3 = (2 * k + 1 + 1) * 3 := by omega
              have ne01a : ¬ (2 * k + 1 + 1) * 3 = k * 3 + 1 := by omega
              have ne01b : ¬ k * 3 + 1 = (2 * k + 1 + 1) * 3 := by omega
              have ne02a : ¬ (2 * k + 1 + 1) * 3 = k * 3 + 2 := by omega
              have ne02b : ¬ k * 3 + 2 = (2 * k + 1 + 1) * 3 := by omega
              have ne10a : ¬ (2 * k + 1 + 1) * 3 + 1 = k * 3 := by omega
              have ne10b : ¬ k * 3 = (2 * k + 1 + 1) * 3 + 1 := by omega
              have ne11a : ¬ (2 * k + 1 + 1) * 3 + 1 = k * 3 + 1 := by omega
              have ne11b : ¬ k * 3 + 1 = (2 * k + 1 + 1) * 3 + 1 := by omega
              have ne12a : ¬ (2 * k + 1 + 1) * 3 + 1 = k * 3 + 2 := by omega
              have ne12b : ¬ k * 3 + 2 = (2 * k + 1 + 1) * 3 + 1 := by omega
              have ne20a : ¬ (2 * k + 1 + 1) * 3 + 2 = k * 3 := by omega
              have ne20b : ¬ k * 3 = (2 * k + 1 + 1) * 3 + 2 := by omega
              have ne21a : ¬ (2 * k + 1 + 1) * 3 + 2 = k * 3 + 1 := by omega
              have ne21b : ¬ k * 3 + 1 = (2 * k + 1 + 1) * 3 + 2 := by omega
              have ne22a : ¬ (2 * k + 1 + 1) * 3 + 2 = k * 3 + 2 := by omega
              have ne22b : ¬ k * 3 + 2 = (2 * k + 1 + 1) * 3 + 2 := by omega
              as_aux_lemma =>
                go_wp2
                go_region
                all_goals
                  go_wp2
                  go_roundw
                  case rel =>
                    refine ⟨2 * k + 1 + 1, swapL e0 l1 k (2 * k + 1 + 1), by go_num, by omega, by rw [swapL_length]; exact Hll.out, (List.Perm.cons _ (perm_swap e0 l1 k (2 * k + 1 + 1) hltk hltc)).trans Hp1.out, ?_, (HE5.out.swap hgH k (2 * k + 1 + 1) hltk hltc Hu.out Hy2.out).drewN 1, (HO5.out.trans (Only.swap w5 g k (2 * k + 1 + 1) u y2) HgT.out).drewN 1, HX5.out.only ((Only.swap w5 g k (2 * k + 1 + 1) u y2).drewN 1) hgbr hgbx⟩
                    refine HDn.out.step e0 order (by omega) hltc (by omega) ?_ (fun c hc0 hcl hci => ?_)
                    · rw [Hy2.out, Hu.out]; exact of_decide_eq_true HB.out
                    · rw [Hy2.out]
                      have hc2 : c = 2 * k + 1 ∨ c = 2 * k + 1 + 1 := by omega
                      rcases hc2 with rfl | rfl
                      · rw [Hy1.out]; exact order.asym _ _ (of_decide_eq_true HB1.out)
                      · rw [Hy2.out]; exact Lt.irrefl _

                  case measure => simp only [intOf]; omega
      · have i3 : decide (2 * (k : Int) + 1 + 1 < (n : Int)) = false := by simp; omega
        have i4 : decide (2 * k + 1 + 1 < n) = false := by simp; omega
        clear hcell hll hy1
        go_upto_region 9 with fail
        go_quiet (fail)
        have HQ := Lib.hid (HHr.out.drewN nq)
        have OQ := Lib.hid (HOr.out.drewN nq)
        have XQ : Hid (RX (wr.drewN nq) br bx x0) := Lib.hid ⟨HXr.out.r, HXr.out.x⟩
        clear HHr HOr HXr e0' e1 hgl2
        generalize wr.drewN nq = wq at HQ OQ XQ ⊢
        have hltc : 2 * k + 1 < l1.length := by have := Hll.out; omega
        have hltk : k < l1.length := by have := Hll.out; omega
        obtain ⟨gq, hgq, _, hglq, _, hcellq, hfrq⟩ := HQ.out.row.open (by omega)
        obtain rfl : g = gq := by simpa using hgq
        have q0 := HQ.out.c0
        rw [Hll.out] at q0
        have q1 : wq.cell? ⟨H, 1, none⟩ = some (.func (.func 16) #[] #[]) := HQ.out.c1
        obtain ⟨a0, a1, a2⟩ := hcellq (2 * k + 1) hltc
        obtain ⟨u0, u1, u2⟩ := hcellq k hltk
        rw [Hy1.out] at a0 a1 a2
        generalize hu : l1.getD k e0 = u at u0 u1 u2
        have Hu := Lib.hid hu
        have hC := sooner_any y1 u
        unfold evV at hC
        have HC := Lib.hid hC
        have z1 : (0 : Int) ≤ 2 * (k : Int) + 1 := by omega
        have z2 : (2 * (k : Int) + 1).toNat = 2 * k + 1 := by omega
        have z3 : (2 * (k : Int) + 1 + 1).toNat = 2 * k + 1 + 1 := by omega
        have z4 : (0 : Int) ≤ 2 * (k : Int) + 1 + 1 := by omega
        have z5 : (0 : Int) ≤ (k : Int) := by omega
        clear hu hC hgq hcellq hfrq
        as_aux_lemma =>
          go_upto_region 11 with fail
          go_still_tail 18, (by kernel_rfl)
          change wpList _ _ _ _ _ wq.drew
          go_wp2_with fail
          refine (HC.out _).mono ?_
          rintro e w5 ⟨rfl, hw5⟩
          have hO5 : Only wq w5 (fun _ => False) := by
            rw [hw5]
            exact (((Only.refl wq _).drewN 1).trans (Only.alloc _ _ (fun _ => False)) (fun _ _ c => c)).trans (Only.alloc _ _ (fun _ => False)) (fun _ _ c => c)
          have hE5 := HQ.out.only (hO5.mono (fun _ _ c => c.elim))
          have HE5 := Lib.hid hE5
          have HO5 := Lib.hid (OQ.out.trans hO5 (fun _ _ c => c.elim))
          have HX5 := Lib.hid (XQ.out.only hO5 (fun c => c) (fun c => c))
          have hbg := hO5.block g hglq (fun c => c)
          have p0 := hE5.c0
          rw [Hll.out] at p0
          have b0 := (World.cell?_of_block (a := ⟨g, (2 * k + 1) * 3, none⟩) hbg).trans a0
          have b1 := (World.cell?_of_block (a := ⟨g, (2 * k + 1) * 3 + 1, none⟩) hbg).trans a1
          have b2 := (World.cell?_of_block (a := ⟨g, (2 * k + 1) * 3 + 2, none⟩) hbg).trans a2
          have d0 := (World.cell?_of_block (a := ⟨g, k * 3, none⟩) hbg).trans u0
          have d1 := (World.cell?_of_block (a := ⟨g, k * 3 + 1, none⟩) hbg).trans u1
          have d2 := (World.cell?_of_block (a := ⟨g, k * 3 + 2, none⟩) hbg).trans u2
          obtain ⟨_, hg5, _, _, _, _, hfr5⟩ := hE5.row.open (by have := Hll.out; omega)
          obtain rfl := Addr.mk.inj (Option.some.inj hg5) |>.1
          have Hfr5 := Lib.hid hfr5
          clear hw5 hO5 hE5 hbg hg5 hfr5 u0 u1 u2 a0 a1 a2 q0 q1 HC HQ OQ XQ
          cases hb : ltB y1 u with
          | false =>
            have HB := Lib.hid hb
            clear hb
            as_aux_lemma =>
              have m0 := HX5.out.x0
              have m1 := HX5.out.x1
              have m2 := HX5.out.x2
              have r0 := HX5.out.r0
              have r1 := HX5.out.r1
              have r2 := HX5.out.r2
              have s0 := HX5.out.f 0
              have s1 := HX5.out.f 1
              have s2 := HX5.out.f 2
              go_wp2
              (try simp only [Exit.inBlock, Exit.then])
              refine bodyPost_ret (results_cell_row rfl _ _ br _ _ _ _ rfl (HX5.out.ret (y := x0)) Try.underlying54 rfl (by kernel_rfl)) rfl ?_
              refine ⟨rfl, l1, Hp1.out, HDn.out.done e0 (fun c hc0 hcl hci => ?_), HE5.out.ret x0 Hnb.out, HO5.out.retd x0 Hgb.out⟩
              have hyu : ¬ Lt y1 u := of_decide_eq_false HB.out
              rw [Hu.out]
              obtain rfl : c = 2 * k + 1 := by have := Hll.out; omega
              rw [Hy1.out]; exact hyu
          | true =>
            have HB := Lib.hid hb
            clear hb
            have frc0 := Hfr5.out ((2 * k + 1) * 3)
            have frc1 := Hfr5.out ((2 * k + 1) * 3 + 1)
            have frc2 := Hfr5.out ((2 * k + 1) * 3 + 2)
            have frk0 := Hfr5.out (k * 3)
            have frk1 := Hfr5.out (k * 3 + 1)
            have frk2 := Hfr5.out (k * 3 + 2)
            have ne00a : ¬ (2 * k + 1) * 3 = k * 3 := by omega
            have ne00b : ¬ k * 3 = (2 * k + 1) * 3 := by omega
            have ne01a : ¬ (2 * k + 1) * 3 = k * 3 + 1 := by omega
            have ne01b : ¬ k * 3 + 1 = (2 * k + 1) * 3 := by omega
            have ne02a : ¬ (2 * k + 1) * 3 = k * 3 + 2 := by omega
            have ne02b : ¬ k * 3 + 2 = (2 * k + 1) * 3 := by omega
            have ne10a : ¬ (2 * k + 1) * 3 + 1 = k * 3 := by omega
            have ne10b : ¬ k * 3 = (2 * k + 1) * 3 + 1 := by omega
            have ne11a : ¬ (2 * k + 1) * 3 + 1 = k * 3 + 1 := by omega
            have ne11b : ¬ k * 3 + 1 = (2 * k + 1) * 3 + 1 := by omega
            have ne12a : ¬ (2 * k + 1) * 3 + 1 = k * 3 + 2 := by omega
            have ne12b : ¬ k * 3 + 2 = (2 * k + 1) * 3 + 1 := by omega
            have ne20a : ¬ (2 * k + 1) * 3 + 2 = k * 3 := by omega
            have ne20b : ¬ k * 3 = (2 * k + 1) * 3 + 2 := by omega
            have ne21a : ¬ (2 * k + 1) * 3 + 2 = k * 3 + 1 := by omega
            have ne21b : ¬ k * 3 + 1 = (2 * k + 1) * 3 + 2 := by omega
            have ne22a : ¬ (2 * k + 1) * 3 + 2 = k * 3 + 2 := by omega
            have ne22b : ¬ k * 3 + 2 = (2 * k + 1) * 3 + 2 := by omega
            as_aux_lemma =>
              go_wp2
              go_region
              all_goals
                go_wp2
                go_roundw
                case rel =>
                  refine ⟨2 * k + 1, swapL e0 l1 k (2 * k + 1), by go_num, by omega, by rw [swapL_length]; exact Hll.out, (List.Perm.cons _ (perm_swap e0 l1 k (2 * k + 1) hltk hltc)).trans Hp1.out, ?_, (HE5.out.swap hgH k (2 * k + 1) hltk hltc Hu.out Hy1.out).drewN 1, (HO5.out.trans (Only.swap w5 g k (2 * k + 1) u y1) HgT.out).drewN 1, HX5.out.only ((Only.swap w5 g k (2 * k + 1) u y1).drewN 1) hgbr hgbx⟩
                  refine HDn.out.step e0 order (by omega) hltc (by omega) ?_ (fun c hc0 hcl hci => ?_)
                  · rw [Hy1.out, Hu.out]; exact of_decide_eq_true HB.out
                  · rw [Hy1.out]
                    obtain rfl : c = 2 * k + 1 := by have := Hll.out; omega
                    rw [Hy1.out]; exact Lt.irrefl _

                case measure => simp only [intOf]; omega
    · have i1 : (n : Int) ≤ (2 * (k : Int) + 1) := by omega
      clear hHr hOr hXr hp hll hdn
      have m0 := HXr.out.x0
      have m1 := HXr.out.x1
      have m2 := HXr.out.x2
      have r0 := HXr.out.r0
      have r1 := HXr.out.r1
      have r2 := HXr.out.r2
      have s0 := HXr.out.f 0
      have s1 := HXr.out.f 1
      have s2 := HXr.out.f 2
      go_wp2
      (try simp only [Exit.inBlock, Exit.then])
      refine bodyPost_ret (results_cell_row rfl _ _ br _ _ _ _ rfl (HXr.out.ret (y := x0)) Try.underlying54 rfl (by kernel_rfl)) rfl ?_
      refine ⟨rfl, l1, Hp1.out, HDn.out.done e0 (fun c hc0 hcl hci => ?_), HHr.out.ret x0 Hnb.out, HOr.out.retd x0 Hgb.out⟩
      exfalso
      have := Hll.out
      omega
end Go.Proofs.Ytdalffmmkhcdaaa
