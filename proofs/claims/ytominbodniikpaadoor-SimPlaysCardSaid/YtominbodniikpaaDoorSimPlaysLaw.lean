/- WALK: the law SimPlays. -/
import Derived.Test.YtominbodniikpaaDoorSimPlaysWorld
import Derived.Test.YtominbodniikpaaDoorMatLean
import Derived.Deep.RegionLaw
import Derived.Deep.AppendLies
import Derived.Deep.RegionHeld3
namespace Go.Proofs.YtominbodniikpaaDoor
open Go Go.RowKit SimPlain HeapPlain

theorem ManyL {w0 w : World} {S : Nat} {F : Nat → Prop} {a : Option Addr} {cap : Nat} {l q : List Ev} {now seq : Int} (h : PlW w0 w S F a cap l q now seq) (t : Two l q seq) : Calls Tryd.prog 14 #[.pointer (some ⟨S, 0, none⟩)] w fun e w' => e = .returned (.int .i64 l.length) ∧ w = w' := by
  have := ManyP h
  rw [t.len] at this
  exact this
/-- what the law keeps -/
def PlR (w wr : World) (S k : Nat) (lv nv : Value) : Prop := ∃ (L q : List Ev) (F : Nat → Prop) (a : Option Addr) (cap : Nat) (now seq : Int), lv = .slice a L.length cap ∧ nv = .int .i64 now ∧ PlW w wr S F a cap L q now seq ∧ Two L q seq ∧ seq ≤ k
theorem PlW.facts {w0 w : World} {S : Nat} {F : Nat → Prop} {a : Option Addr} {cap : Nat} {l q : List Ev} {now seq : Int} (h : PlW w0 w S F a cap l q now seq) (t : Two l q seq) : l.length ≤ 60 ∧ 0 ≤ now ∧ now ≤ 1000000 ∧ 0 ≤ seq := by
  have f := h.sim.fine
  exact ⟨by rw [← t.len]; exact f.many, f.now0, f.nowL, f.seq0⟩
theorem Two.more {l q : List Ev} {seq seq' : Int} (h : Two l q seq) (hs : seq ≤ seq') : Two l q seq' := ⟨h.perm, h.sorted, h.up, fun e he => by have := h.top e he; omega⟩
/-- in the loop of Until: what has happened is pre, what waits is rest -/
structure PlU (w0 w : World) (S : Nat) (F : Nat → Prop) (a : Option Addr) (cap : Nat) (L q : List Ev) (now seq : Int) (ao : Option Addr) (capo : Nat) (pre rest : List Ev) (T : Int) : Prop where
  pl : PlW w0 w S F a cap L q now seq
  two : Two L rest seq
  split : q = pre ++ rest
  le : ∀ e ∈ pre, e.t ≤ T
  want : EtOwn w w0.heap.size ao capo pre
  woff : ∀ k, (Value.slice ao pre.length capo).ownBlock = some k → ¬ F k
  apart : ∀ k, (Value.slice ao pre.length capo).ownBlock = some k → (Value.slice a L.length cap).ownBlock ≠ some k
theorem PlU.start {w0 w : World} {S : Nat} {F : Nat → Prop} {a : Option Addr} {cap : Nat} {L q : List Ev} {now seq T : Int} (h : PlW w0 w S F a cap L q now seq) (t : Two L q seq) : PlU w0 w S F a cap L q now seq none 0 [] q T :=
  ⟨h, t, rfl, by simp, EtOwn.nil _ _, fun k hk => by simp [Value.ownBlock] at hk, fun k hk => by simp [Value.ownBlock] at hk⟩
section
variable {w0 w w' wA : World} {S : Nat} {F : Nat → Prop} {a : Option Addr} {cap : Nat} {L q : List Ev} {now seq : Int} {ao : Option Addr} {capo : Nat} {pre rest : List Ev} {T : Int}
theorem PlU.still (h : PlU w0 w S F a cap L q now seq ao capo pre rest T) (o : Only w w' (fun _ => False)) : PlU w0 w' S F a cap L q now seq ao capo pre rest T :=
  ⟨h.pl.still o, h.two, h.split, h.le, h.want.same (fun k hk => o.block k (h.want.lt k hk).2 (fun c => c)), h.woff, h.apart⟩
theorem PlU.short (h : PlU w0 w S F a cap L q now seq ao capo pre rest T) : pre.length ≤ 60 := by
  have := h.pl.sim.fine.many
  rw [h.split, List.length_append] at this
  omega
theorem PlU.short2 (h : PlU w0 w S F a cap L q now seq ao capo pre rest T) : L.length ≤ 60 := by
  have := h.pl.sim.fine.many
  rw [h.split, List.length_append] at this
  have := h.two.len
  omega
structure PlM (w0 w : World) (S : Nat) (F : Nat → Prop) (a : Option Addr) (cap : Nat) (L q : List Ev) (now seq : Int) (ao : Option Addr) (capo : Nat) (pre rest : List Ev) (T : Int) (x : Ev) : Prop where
  pl : PlW w0 w S F a cap L q now seq
  split : q = pre ++ x :: rest
  le : ∀ e ∈ pre, e.t ≤ T
  want : EtOwn w w0.heap.size ao capo (pre ++ [x])
  woff : ∀ k, (Value.slice ao (pre ++ [x]).length capo).ownBlock = some k → ¬ F k
theorem PlU.grow {x : Ev} {v : Value} (h : PlU w0 w S F a cap L q now seq ao capo pre (x :: rest) T) (oA : Only w wA (fun _ => False)) (own : w'.ownsRow w0.heap.size 28 2 v (pre.length + 1) (flat2 pre ++ [.int .i64 x.t, .int .i64 x.id])) (gr : wA.grownBy w' (Value.slice ao pre.length capo).ownBlock)
    (at6 : v.ownBlock = (Value.slice ao pre.length capo).ownBlock ∨ v.ownBlock = some wA.heap.size) : ∃ a6 c6, v = .slice a6 (pre.length + 1) c6 ∧ PlM w0 w' S F a cap L q now seq a6 c6 pre rest T x := by
  obtain ⟨a6, c6, rfl, O⟩ := EtOwn.of (l := pre ++ [x]) (n := pre.length + 1) (by rw [flat2_append]; exact own)
  have hlt := h.want.lt
  have og : Only wA w' (fun k => (Value.slice ao pre.length capo).ownBlock = some k) := ⟨gr.os, gr.tape, gr.output, gr.size, fun k hk hn => gr.block k hk (fun e => hn e.symm)⟩
  have o2 : Only w w' (fun k => (Value.slice ao pre.length capo).ownBlock = some k) := (oA.mono (fun _ _ c => c.elim)).trans og (fun _ _ c => c)
  refine ⟨a6, c6, by simp, h.pl.aside o2 h.woff h.apart (fun k hk => (hlt k hk).1), h.split, h.le, O, fun k hk c => ?_⟩
  rcases at6 with e | e
  · rw [hk] at e
    exact h.woff k e.symm c
  · rw [hk] at e
    have e : k = wA.heap.size := by simpa using e
    have := (h.pl.blocks).1 k c
    have := oA.size
    omega
theorem PlM.next {x : Ev} {k0 : Nat} {a' : Option Addr} {c' : Nat} (h : PlM w0 w S F a cap L q now seq ao capo pre rest T x) (t : Two (L.eraseIdx k0) rest seq) (hle : x.t ≤ T) (h7 : PlW w0 w' S F a' c' (L.eraseIdx k0) q now seq) (f7 : ∀ k, (Value.slice a' (L.eraseIdx k0).length c').ownBlock = some k → w.heap.size ≤ k) (o7 : Only w w' (fun _ => False)) :
    PlU w0 w' S F a' c' (L.eraseIdx k0) q now seq ao capo (pre ++ [x]) rest T :=
  ⟨h7, t, by rw [h.split]; simp, fun e he => by
    rcases List.mem_append.1 he with c | c
    · exact h.le e c
    · rw [List.mem_singleton] at c; rw [c]; exact hle, h.want.same (fun k hk => o7.block k (h.want.lt k hk).2 (fun c => c)), h.woff, fun k hk c => by
    have := f7 k c
    have := (h.want.lt k hk).2
    omega⟩
end
theorem EtOwn.two {w : World} {B : Nat} {a : Option Addr} {cap : Nat} {l : List Ev} (h : EtOwn w B a cap l) : (a = none ∧ cap = 0 ∧ l = []) ∨ ∃ g, a = some ⟨g, 0, none⟩ ∧ g < w.heap.size ∧ ∀ j u, (flat2 l)[j]? = some u → w.cell? ((⟨g, 0, none⟩ : Addr).add j) = some u := by
  rcases h.2 with ⟨h', hz⟩ | ⟨g, cap', cur, h', hb, hg, _⟩
  · simp only [Value.slice.injEq] at h'
    exact .inl ⟨h'.1, h'.2.2, List.eq_nil_of_length_eq_zero hz⟩
  · simp only [Value.slice.injEq, true_and] at h'
    obtain ⟨rfl, rfl⟩ := h'
    refine .inr ⟨g, rfl, lt_of_block hg, ?_⟩
    have := h.from 0 l.length (by omega)
    rw [List.drop_zero, List.take_length, Nat.zero_mul] at this
    exact this
/-- a copy of the row, to be grown -/
structure PlC (w0 wr w1 : World) (S : Nat) (F : Nat → Prop) (a : Option Addr) (cap : Nat) (L q : List Ev) (now seq : Int) (v : Value) : Prop where
  pl : PlW w0 w1 S F a cap L q now seq
  own : w1.ownsRow wr.heap.size 28 2 v L.length (flat2 L)
  below : Below wr.heap.size wr w1
theorem PlW.copy {w0 wr w1 : World} {S : Nat} {F : Nat → Prop} {a : Option Addr} {cap : Nat} {L q : List Ev} {now seq : Int} {v : Value} (h : PlW w0 wr S F a cap L q now seq) (o1 : w1.ownsRow wr.heap.size 28 2 v (0 + L.length) ([] ++ flat2 L)) (g1 : wr.grownBy w1 (Value.slice none 0 0).ownBlock) : PlC w0 wr w1 S F a cap L q now seq v := by
  have b := grown_below g1 (Nat.le_refl _) (fun k hk => by simp [Value.ownBlock] at hk)
  exact ⟨h.to b, by simpa using o1, b⟩
theorem PlC.push {w0 wr w1 w2 w3 : World} {S : Nat} {F : Nat → Prop} {a : Option Addr} {cap : Nat} {L q : List Ev} {now seq : Int} {v : Value} {g c : Nat} (h : PlC w0 wr w1 S F a cap L q now seq v) (hw : PlW w0 wr S F a cap L q now seq) (x : Ev) (b2 : Below w1.heap.size w1 w2) (own : w3.ownsRow wr.heap.size 28 2 (.slice (some ⟨g, 0, none⟩) (L.length + 1) c) (L.length + 1) (flat2 L ++ [.int .i64 x.t, .int .i64 x.id])) (gr : w2.grownBy w3 v.ownBlock) :
    PlW w0 w3 S F (some ⟨g, 0, none⟩) c (L ++ [x]) q now seq := by
  have hlt := World.ownsRow.lt h.own
  have b3 : Below wr.heap.size w2 w3 := grown_below gr (by have := h.below.size; have := b2.size; omega) (fun k hk => (hlt k hk).1)
  refine hw.row' ?_ ((h.below.trans (b2.mono h.below.size)).trans b3)
  unfold EtOwn
  rw [flat2_append, List.length_append]
  exact own

set_option maxRecDepth 100000 in
set_option maxHeartbeats 40000000 in
theorem SimPlays_walk (m : List (List Int)) (a0 : Option Addr) (cap0 : Nat) (w : World) (hx : Mat w a0 m) (hl : m.length ≤ 9223372036854775807) (hg : Handle w) :
    Calls Tryd.prog 3 #[.slice a0 m.length cap0] w fun e w' => e = .returned (.bool true) ∧ Below w.heap.size w w' := by
  have hgd := event_guard
  have hnq := event_neq
  have HG := Lib.hid (fun (w' : World) (b : Below w.heap.size w w') => hg.to b)
  have hgl := hg.lt
  clear hg
  go_enter Tryd.func3, Tryd.ntmps3
  go_wp2_with fail
  refine (NewP w).mono ?_
  rintro e w1 ⟨S, F1, rfl, h1⟩
  have H1 := Lib.hid h1
  clear h1
  go_wp2
  go_loopw [4, 5, 6] (fun lv nv iv wr => ∃ k : Nat, iv = .int .i64 k ∧ k ≤ m.length ∧ k ≤ 120 ∧ PlR w wr S k lv nv) (fun _ _ iv _ => 120 - (intOf iv).toNat)
  case atStart => exact ⟨0, rfl, Nat.zero_le _, by omega, [], [], F1, none, 0, 0, 0, rfl, rfl, H1.out, Two.zero, by omega⟩
  case round =>
    obtain ⟨k, rfl, hk, hk2, L, q, F, a, cap, now, seq, rfl, rfl, hP, hT, hsk⟩ := hrel
    obtain ⟨hL60, hn0, hn1, hs0⟩ := hP.facts hT
    have HP := Lib.hid hP
    have HT := Lib.hid hT
    have Hsk := Lib.hid hsk
    have hwr := hP.below
    have Hwr := Lib.hid hwr
    clear hP hT hsk
    have hs1 : seq ≤ 1000000 := by have := Hsk.out; omega
    by_cases hg : k < m.length ∧ k < 120
    · obtain ⟨hkm, hk120⟩ := hg
      have hkI : (k : Int) < (m.length : Int) := by omega
      have hkI2 : (k : Int) < 120 := by omega
      obtain ⟨b0, o0, rfl, hb0, hcm⟩ := hx.open (by omega)
      obtain ⟨ai, ci, r0, r1, r2⟩ := hcm k hkm
      clear hcm
      have r0 := (hwr.cell (p := ⟨b0, o0 + k, none⟩) hb0).trans r0
      generalize m.getD k [] = xs at r0 r1 r2
      rcases Nat.lt_or_ge xs.length 3 with hx3 | hx3
      · have hx3I : (xs.length : Int) < 3 := by omega
        clear hwr
        go_wp2
        go_roundw
        case rel => exact ⟨k + 1, by go_num, by omega, by omega, L, q, F, a, cap, now, seq, rfl, rfl, HP.out, HT.out, by have := Hsk.out; omega⟩
        case measure => simp only [intOf]; omega
      · have hx3I : ¬ (xs.length : Int) < 3 := by omega
        have hx3D : decide ((xs.length : Int) < 3) = false := decide_eq_false (by omega)
        have hx3N : decide (xs.length < 3) = false := decide_eq_false (by omega)
        have hx3J : (3 : Int) ≤ (xs.length : Int) := by omega
        have hx1I : (1 : Int) < (xs.length : Int) := by omega
        have hx2I : (2 : Int) < (xs.length : Int) := by omega
        have hx0I : (0 : Int) < (xs.length : Int) := by omega
        obtain ⟨bi, oi, rfl, hci⟩ := r1.open (by omega)
        have hci0 := hci 0 (by omega)
        have hci1 := hci 1 (by omega)
        have hci2 := hci 2 (by omega)
        rw [Nat.add_zero] at hci0
        have hbi : bi < w.heap.size := World.block_lt_of_cell? w _ hci0
        generalize xs.getD 0 0 = x0 at hci0
        generalize xs.getD 1 0 = x1 at hci1
        generalize xs.getD 2 0 = x2 at hci2
        have HC0 := Lib.hid (fun (w' : World) (b : Below w.heap.size w w') => (b.cell (p := ⟨bi, oi, none⟩) hbi).trans hci0)
        have HC1 := Lib.hid (fun (w' : World) (b : Below w.heap.size w w') => (b.cell (p := ⟨bi, oi + 1, none⟩) hbi).trans hci1)
        have HC2 := Lib.hid (fun (w' : World) (b : Below w.heap.size w w') => (b.cell (p := ⟨bi, oi + 2, none⟩) hbi).trans hci2)
        have d0 := HC0.out wr hwr
        have d1 := HC1.out wr hwr
        have d2 := HC2.out wr hwr
        clear hci hci0 hci1 hci2 r1 hwr hx
        by_cases h0 : x0 = 0
        · subst h0
          as_aux_lemma =>
            clear d1 d2
            rcases Nat.eq_zero_or_pos L.length with hLe | hne
            · obtain rfl : L = [] := List.eq_nil_of_length_eq_zero hLe
              clear hLe
              obtain rfl : q = [] := List.eq_nil_of_length_eq_zero (by rw [HT.out.len]; rfl)
              go_upto_region 24 with fail
              have hW := heap_alloc_new wr (.cells #[.int .i64 0, .int .i64 0] 28)
              have H1 := Lib.hid (HP.out.still (Only.alloc wr (.cells #[.int .i64 0, .int .i64 0] 28) _))
              generalize wr.alloc (.cells #[.int .i64 0, .int .i64 0] 28) = w1 at hW H1 ⊢
              generalize wr.heap.size = W at *
              clear d0
              have HW := Lib.hid hW
              clear hW
              go_wp2_with fail
              refine (NextP_none H1.out).mono ?_
              rintro e w2 ⟨rfl, h2, o2⟩
              have hW2 := (o2.block W (lt_of_block HW.out) (fun c => c)).trans HW.out
              have H2 := Lib.hid h2
              clear h2 o2

              go_upto_region 31 with fail
              have hY := heap_alloc_new w2 (.cells #[.int .i64 0, .int .i64 0] 28)
              have H3 := Lib.hid (H2.out.still (Only.alloc w2 (.cells #[.int .i64 0, .int .i64 0] 28) _))
              have hW3 := ((Only.alloc w2 (.cells #[.int .i64 0, .int .i64 0] 28) (fun _ => False)).block W (lt_of_block hW2) (fun c => c)).trans hW2
              generalize w2.alloc (.cells #[.int .i64 0, .int .i64 0] 28) = w3 at hY H3 hW3 ⊢
              generalize w2.heap.size = Y at *
              have HY := Lib.hid hY
              have HW3 := Lib.hid hW3
              clear hY hW3 hW2
              go_wp2_with fail
              refine (Err1 5 (by decide) w3 (HG.out w3 H3.out.below)).mono ?_
              rintro e w4 ⟨rfl, b4⟩
              have H4 := Lib.hid (H3.out.to b4)
              have hY4 := (b4.block Y (lt_of_block HY.out)).trans HY.out
              have hW4 := (b4.block W (lt_of_block HW3.out)).trans HW3.out
              clear b4
              have y0 : w4.cell? ⟨Y, 0, none⟩ = some (.int .i64 0) := by simp only [World.cell?, hY4]; rfl
              have y1 : w4.cell? ⟨Y, 1, none⟩ = some (.int .i64 0) := by simp only [World.cell?, hY4]; rfl
              have z0 : w4.cell? ⟨W, 0, none⟩ = some (.int .i64 0) := by simp only [World.cell?, hW4]; rfl
              have z1 : w4.cell? ⟨W, 1, none⟩ = some (.int .i64 0) := by simp only [World.cell?, hW4]; rfl
              clear hY4 hW4
              go_wp2_with fail
              refine (NowP H4.out).mono ?_
              rintro e w8 ⟨rfl, rfl⟩
              go_wp2_with fail
              refine (ManyL H4.out HT.out).mono ?_
              rintro e w9 ⟨rfl, rfl⟩
              go_wp2
              go_roundw
              case rel => exact ⟨k + 1, by go_num, by omega, by omega, [], [], F, a, cap, now, seq, rfl, rfl, H4.out, HT.out, by have := Hsk.out; omega⟩
              case measure => simp only [intOf]; omega
            · obtain ⟨k0, hk0⟩ := first_exists hne
              have hneI : (0 : Int) < (L.length : Int) := by omega
              have hneB : ((L.length : Int) == 0) = false := by rw [beq_eq_false_iff_ne]; omega
              have hk0l := hk0.lt
              have hk0I : (k0 : Int) < (L.length : Int) := by omega
              obtain ⟨q', hq, hT2⟩ := HT.out.first hk0
              subst hq
              have HT2 := Lib.hid hT2
              have HK0 := Lib.hid hk0
              clear hT2 hk0
              go_upto_region 24 with fail
              clear d0
              have hW := heap_alloc_new wr (.cells #[.int .i64 0, .int .i64 0] 28)
              have H1 := Lib.hid (HP.out.still (Only.alloc wr (.cells #[.int .i64 0, .int .i64 0] 28) _))
              have hblk := HP.out.blocks
              have hWF : ¬ F wr.heap.size := fun c => by have := hblk.1 _ c; omega
              have hWR : (Value.slice a L.length cap).ownBlock ≠ some wr.heap.size := fun c => by have := hblk.2 _ c; omega
              have hWw : w.heap.size ≤ wr.heap.size := Hwr.out.size
              clear hblk
              generalize wr.alloc (.cells #[.int .i64 0, .int .i64 0] 28) = w1 at hW H1 ⊢
              generalize wr.heap.size = W at *
              have HW := Lib.hid hW
              have HWF := Lib.hid hWF
              have HWR := Lib.hid hWR
              have HWw := Lib.hid hWw
              clear hW hWF hWR hWw
              go_wp2_with fail
              refine (FirstP H1.out HK0.out (by omega)).mono ?_
              rintro e v2 ⟨rfl, h2, o2⟩
              have hW2 := (o2.block W (lt_of_block HW.out) (fun c => c)).trans HW.out
              obtain ⟨g, hga, _, _, hcl⟩ := h2.row.open hne
              obtain ⟨c0, c1⟩ := hcl k0 hk0l
              have hgW : ¬ g = W := fun e => HWR.out (by rw [hga, e]; rfl)
              subst hga
              have H2 := Lib.hid h2
              clear h2 o2 hcl
              have v0 : v2.cell? ⟨W, 0, none⟩ = some (.int .i64 0) := by simp only [World.cell?, hW2]; rfl
              have v1 : v2.cell? ⟨W, 1, none⟩ = some (.int .i64 0) := by simp only [World.cell?, hW2]; rfl
              have f0 : v2.frozen? ⟨W, 0, none⟩ = false := by simp only [World.frozen?, hW2]; rfl
              have f1 : v2.frozen? ⟨W, 1, none⟩ = false := by simp only [World.frozen?, hW2]; rfl
              have HT3 : Hid (Two (L.eraseIdx k0) q' seq) := HT2
              have HP1 : Hid (PlW w v2 S F (some ⟨g, 0, none⟩) cap L (L.getD k0 e0 :: q') now seq) := H2
              clear HT H1
              generalize hxe : L.getD k0 e0 = x at *
              obtain ⟨xt, xi, xs9⟩ := x
              simp only at c0 c1
              have HW2 := Lib.hid hW2
              clear hxe hW2
              go_upto_region 28 with fail
              have o3 : Only v2 ((v2.setCell ⟨W, 0, none⟩ (.int .i64 xt)).setCell ⟨W, 1, none⟩ (.int .i64 xi)) (fun k => k = W) := (Only.setCell v2 ⟨W, 0, none⟩ _ (fun k => k = W) rfl).trans (Only.setCell _ ⟨W, 1, none⟩ _ (fun k => k = W) rfl) (fun _ _ c => c)
              have H3 := Lib.hid (HP1.out.aside o3 (fun k c => c ▸ HWF.out) (fun k c => c ▸ HWR.out) (fun k c => c ▸ HWw.out))
              have hW3 : ((v2.setCell ⟨W, 0, none⟩ (.int .i64 xt)).setCell ⟨W, 1, none⟩ (.int .i64 xi)).heap[W]? = some (.cells #[.int .i64 xt, .int .i64 xi] 28 (0, 0)) := heap_setCell_same _ _ _ _ _ _ (heap_setCell_same _ _ _ _ _ _ HW2.out)
              generalize (v2.setCell ⟨W, 0, none⟩ (.int .i64 xt)).setCell ⟨W, 1, none⟩ (.int .i64 xi) = v3 at H3 hW3 o3 ⊢
              have z0 : v3.cell? ⟨W, 0, none⟩ = some (.int .i64 xt) := by simp only [World.cell?, hW3]; rfl
              have HW3 := Lib.hid hW3
              clear o3 hW3 v0 v1 f0 f1 c0 c1
              go_wp2_with fail
              refine (WithoutP H3.out hk0l (by omega)).mono ?_
              rintro e v4 ⟨a', c', rfl, h4, _, o4⟩
              have hW4 := (o4.block W (lt_of_block HW3.out) (fun c => c)).trans HW3.out
              have H4 := Lib.hid h4
              have HW4 := Lib.hid hW4
              clear h4 o4 z0 hW4
              go_wp2_with fail
              refine (NextP_some H4.out).mono ?_
              rintro e w2 ⟨rfl, h2, o2⟩
              have hW2 := (o2.block W (lt_of_block HW4.out) HWF.out).trans HW4.out
              have H2 := Lib.hid h2
              clear h2 o2 H4
              simp only

              go_upto_region 31 with fail
              have hY := heap_alloc_new w2 (.cells #[.int .i64 xt, .int .i64 xi] 28)
              have H3 := Lib.hid (H2.out.still (Only.alloc w2 (.cells #[.int .i64 xt, .int .i64 xi] 28) _))
              have hW3 := ((Only.alloc w2 (.cells #[.int .i64 xt, .int .i64 xi] 28) (fun _ => False)).block W (lt_of_block hW2) (fun c => c)).trans hW2
              generalize w2.alloc (.cells #[.int .i64 xt, .int .i64 xi] 28) = w3 at hY H3 hW3 ⊢
              generalize w2.heap.size = Y at *
              have HY := Lib.hid hY
              have HW3 := Lib.hid hW3
              clear hY hW3 hW2
              go_wp2_with fail
              refine (Err0 w3 (HG.out w3 H3.out.below)).mono ?_
              rintro e w4 ⟨rfl, b4⟩
              have H4 := Lib.hid (H3.out.to b4)
              have hY4 := (b4.block Y (lt_of_block HY.out)).trans HY.out
              have hW4 := (b4.block W (lt_of_block HW3.out)).trans HW3.out
              clear b4
              have y0 : w4.cell? ⟨Y, 0, none⟩ = some (.int .i64 xt) := by simp only [World.cell?, hY4]; rfl
              have y1 : w4.cell? ⟨Y, 1, none⟩ = some (.int .i64 xi) := by simp only [World.cell?, hY4]; rfl
              have z0 : w4.cell? ⟨W, 0, none⟩ = some (.int .i64 xt) := by simp only [World.cell?, hW4]; rfl
              have z1 : w4.cell? ⟨W, 1, none⟩ = some (.int .i64 xi) := by simp only [World.cell?, hW4]; rfl
              clear hY4 hW4
              go_wp2_with fail
              refine (NowP H4.out).mono ?_
              rintro e w8 ⟨rfl, rfl⟩
              go_wp2_with fail
              refine (ManyL H4.out HT3.out).mono ?_
              rintro e w9 ⟨rfl, rfl⟩
              go_wp2
              go_roundw
              case rel => exact ⟨k + 1, by go_num, by omega, by omega, L.eraseIdx k0, q', F, a', c', xt, seq, rfl, rfl, H4.out, HT3.out, by have := Hsk.out; omega⟩
              case measure => simp only [intOf]; omega
        · have h0b : (x0 == 0) = false := beq_eq_false_iff_ne.2 h0
          by_cases h1 : x0 = 1
          · subst h1
            as_aux_lemma =>
              clear h0 h0b d2
              by_cases hc : untilC now x1 = 0
              · have t0 : 0 ≤ x1 := by unfold untilC at hc; split at hc <;> omega
                have t1 : x1 ≤ 1000000 := by unfold untilC at hc; split at hc <;> omega
                have t2 : now ≤ x1 := by unfold untilC at hc; split at hc; omega; split at hc <;> omega
                have H0 := Lib.hid (PlU.start (T := x1) HP.out HT.out)
                have Hc := Lib.hid hc
                clear hc
                go_wp2
                clear d0 d1
                go_loopw [4, 13] (fun lv wv wr2 => ∃ (L2 : List Ev) (a2 : Option Addr) (c2 : Nat) (pre rest : List Ev) (ao : Option Addr) (capo : Nat), lv = .slice a2 L2.length c2 ∧ wv = .slice ao pre.length capo ∧ PlU w wr2 S F a2 c2 L2 q now seq ao capo pre rest x1) (fun lv _ _ => slLen lv)
                case atStart => exact ⟨L, a, cap, [], q, none, 0, rfl, rfl, H0.out⟩
                case round =>
                  obtain ⟨L2, a2, c2, pre, rest, ao, capo, rfl, rfl, hU⟩ := hrel
                  have hc := Hc.out
                  have d1 := HC1.out wr hU.pl.below
                  have hL2 := hU.short2
                  have hpre := hU.short
                  have HU0 := Lib.hid hU
                  rcases Nat.eq_zero_or_pos L2.length with hz | hne
                  · obtain rfl : L2 = [] := List.eq_nil_of_length_eq_zero hz
                    obtain rfl : rest = [] := List.eq_nil_of_length_eq_zero (by rw [hU.two.len]; rfl)
                    have HC := Lib.hid hc
                    clear hz hU hc hL2 hpre
                    go_wp2
                    go_quiet (fail)
                    have HU := Lib.hid (HU0.out.still ((Only.refl wr _).drewN nq))
                    generalize wr.drewN nq = w2 at HU ⊢
                    have hr : ∀ (x : Ev) (r : List Ev), ([] : List Ev) = x :: r → x1 < x.t := by intro x r e; cases e
                    have hc := HC.out
                    clear d1
                    obtain ⟨e1, e2⟩ := till_split HU.out.le hr
                    rw [← HU.out.split] at e1 e2
                    have HUn := Lib.hid (UntilP_yes HU.out.pl hc)
                    rw [e1, e2] at HUn
                    have d1 := HC1.out w2 HU.out.pl.below
                    clear e1 e2 hr
                    go_wp2_with fail
                    refine HUn.out.mono ?_
                    rintro e w3 ⟨ay, capy, rfl, hy, h3, o3⟩
                    have HY := Lib.hid hy
                    have H3 := Lib.hid h3
                    have HWt := Lib.hid (HU.out.want.same (fun j hj => o3.block j (HU.out.want.lt j hj).2 (HU.out.woff j hj)))
                    clear hy h3 o3 d1
                    go_wp2_with fail
                    refine (Err0 w3 (HG.out w3 H3.out.below)).mono ?_
                    rintro e w4 ⟨rfl, b4⟩
                    have H4 := Lib.hid (H3.out.to b4)
                    have HY4 := Lib.hid (HY.out.same (fun j hj => b4.block j (HY.out.lt j hj).2))
                    have HWt4 := Lib.hid (HWt.out.same (fun j hj => b4.block j (HWt.out.lt j hj).2))
                    clear b4
                    go_wp2_with fail
                    refine (events_same pre ay ao pre.length capy capo _ _ rfl w4 HY4.out HWt4.out (by have := HU.out.short; omega)).mono ?_
                    rintro e w5 ⟨rfl, n5, rfl⟩
                    have H5 := Lib.hid (H4.out.drewN n5)
                    have HT5 := Lib.hid HU.out.two
                    generalize w4.drewN n5 = w6 at H5 ⊢
                    clear HY HY4 HWt HWt4 H3 H4 HUn
                    go_wp2_with fail
                    refine (NowP H5.out).mono ?_
                    rintro e w8 ⟨rfl, rfl⟩
                    go_wp2_with fail
                    refine (ManyL H5.out HT5.out).mono ?_
                    rintro e w9 ⟨rfl, rfl⟩
                    go_wp2
                    go_roundw
                    case rel => exact ⟨k + 1, by go_num, by omega, by omega, [], [], F, a2, c2, x1, seq, rfl, rfl, H5.out, HT5.out, by have := Hsk.out; omega⟩
                    case measure => simp only [intOf]; omega
                  · obtain ⟨k0, hk0⟩ := first_exists hne
                    obtain ⟨rest', hrest, hT2⟩ := hU.two.first hk0
                    subst hrest
                    have hk0l := hk0.lt
                    have hk0I : (k0 : Int) < (L2.length : Int) := by omega
                    have hneI : (0 : Int) < (L2.length : Int) := by omega
                    have hneD : decide ((0 : Int) < (L2.length : Int)) = true := decide_eq_true hneI
                    have hneE : decide (0 < L2.length) = true := decide_eq_true hne
                    obtain ⟨g, hga, _, _, hcl⟩ := hU.pl.row.open hne
                    obtain ⟨c0, c1⟩ := hcl k0 hk0l
                    subst hga
                    have HF := Lib.hid (fun n => first_at L2 k0 hk0 (some ⟨g, 0, none⟩) c2 _ (wr.drewN n) (hU.pl.drewN n).row (by omega))
                    have HK0 := Lib.hid hk0
                    have HT2 := Lib.hid hT2
                    have HC := Lib.hid hc
                    have HCL := Lib.hid hcl
                    clear hU hk0 hT2 hcl hc hpre
                    have HU1 : Hid (PlU w wr S F (some ⟨g, 0, none⟩) c2 L2 q now seq ao capo pre (L2.getD k0 e0 :: rest') x1) := HU0
                    have HT3 : Hid (Two (L2.eraseIdx k0) rest' seq) := HT2
                    have HC0 : Hid (wr.cell? ⟨g, k0 * 2, none⟩ = some (.int .i64 (L2.getD k0 e0).t) ∧ wr.cell? ⟨g, k0 * 2 + 1, none⟩ = some (.int .i64 (L2.getD k0 e0).id)) := HCL.out k0 hk0l |> Lib.hid
                    clear HU0 HT2 HCL c1
                    generalize L2.getD k0 e0 = x at *
                    obtain ⟨xt, xi, xs9⟩ := x
                    simp only at c0
                    rcases Int.lt_or_le x1 xt with hlt | hle
                    · have hd : decide (xt ≤ x1) = false := decide_eq_false (by omega)
                      go_wp2
                      go_quiet (with_reducible exact Calls.quiet_of (HF.out _))
                      have HU := Lib.hid (HU1.out.still ((Only.refl wr _).drewN nq))
                      have hr : ∀ (y : Ev) (r : List Ev), (⟨xt, xi, xs9⟩ :: rest' : List Ev) = y :: r → x1 < y.t := by
                        intro y r e
                        simp only [List.cons.injEq] at e
                        rw [← e.1]; exact hlt
                      have hc := HC.out
                      clear c0 d1 hd HF HU1 HT3 HC0 HK0
                      generalize wr.drewN nq = w2 at HU ⊢
                      obtain ⟨e1, e2⟩ := till_split HU.out.le hr
                      rw [← HU.out.split] at e1 e2
                      have HUn := Lib.hid (UntilP_yes HU.out.pl hc)
                      rw [e1, e2] at HUn
                      have d1 := HC1.out w2 HU.out.pl.below
                      clear e1 e2 hr
                      go_wp2_with fail
                      refine HUn.out.mono ?_
                      rintro e w3 ⟨ay, capy, rfl, hy, h3, o3⟩
                      have HY := Lib.hid hy
                      have H3 := Lib.hid h3
                      have HWt := Lib.hid (HU.out.want.same (fun j hj => o3.block j (HU.out.want.lt j hj).2 (HU.out.woff j hj)))
                      clear hy h3 o3 d1
                      go_wp2_with fail
                      refine (Err0 w3 (HG.out w3 H3.out.below)).mono ?_
                      rintro e w4 ⟨rfl, b4⟩
                      have H4 := Lib.hid (H3.out.to b4)
                      have HY4 := Lib.hid (HY.out.same (fun j hj => b4.block j (HY.out.lt j hj).2))
                      have HWt4 := Lib.hid (HWt.out.same (fun j hj => b4.block j (HWt.out.lt j hj).2))
                      clear b4
                      go_wp2_with fail
                      refine (events_same pre ay ao pre.length capy capo _ _ rfl w4 HY4.out HWt4.out (by have := HU.out.short; omega)).mono ?_
                      rintro e w5 ⟨rfl, n5, rfl⟩
                      have H5 := Lib.hid (H4.out.drewN n5)
                      have HT5 := Lib.hid HU.out.two
                      generalize w4.drewN n5 = w6 at H5 ⊢
                      clear HY HY4 HWt HWt4 H3 H4 HUn
                      go_wp2_with fail
                      refine (NowP H5.out).mono ?_
                      rintro e w8 ⟨rfl, rfl⟩
                      go_wp2_with fail
                      refine (ManyL H5.out HT5.out).mono ?_
                      rintro e w9 ⟨rfl, rfl⟩
                      go_wp2
                      go_roundw
                      case rel => exact ⟨k + 1, by go_num, by omega, by omega, L2, (⟨xt, xi, xs9⟩ :: rest'), F, (some ⟨g, 0, none⟩), c2, x1, seq, rfl, rfl, H5.out, HT5.out, by have := Hsk.out; omega⟩
                      case measure => simp only [intOf]; omega
                    · go_wp2
                      go_quiet (with_reducible exact Calls.quiet_of (HF.out _))
                      have HU2 := Lib.hid (HU1.out.still ((Only.refl wr _).drewN nq))
                      have hcc0 : (wr.drewN nq).cell? ⟨g, k0 * 2, none⟩ = some (.int .i64 xt) := HC0.out.1
                      have hcc1 : (wr.drewN nq).cell? ⟨g, k0 * 2 + 1, none⟩ = some (.int .i64 xi) := HC0.out.2
                      clear c0 d1 HF HU1 HC0
                      generalize wr.drewN nq = w2 at HU2 hcc0 hcc1 ⊢
                      have Hcc0 := Lib.hid hcc0
                      have Hcc1 := Lib.hid hcc1
                      clear hcc0 hcc1
                      go_wp2_with fail
                      refine (FirstP HU2.out.pl HK0.out (by omega)).mono ?_
                      rintro e w3 ⟨rfl, h3, o3⟩
                      have HU3 := Lib.hid (HU2.out.still o3)
                      have hgl : g < w2.heap.size := World.block_lt_of_cell? w2 _ Hcc0.out
                      have c0 := (World.cell?_of_block (a := ⟨g, k0 * 2, none⟩) (o3.block g hgl (fun c => c))).trans Hcc0.out
                      have c1 := (World.cell?_of_block (a := ⟨g, k0 * 2 + 1, none⟩) (o3.block g hgl (fun c => c))).trans Hcc1.out
                      obtain ⟨i0, hi0, hz0, hz1, hz2⟩ := info_parts etInfo
                      have hpre := HU3.out.short
                      have hsz := HU3.out.pl.below.size
                      have post := Lib.hid (fun v w6 own6 gr6 at6 => HU3.out.grow (v := v) (w' := w6) (Only.alloc w3 (.cells #[.int .i64 xt, .int .i64 xi] 28) (fun _ => False)) own6 gr6 at6)
                      have HOwn := Lib.hid HU3.out.want
                      clear h3 o3 Hcc0 Hcc1 HU2 hgl
                      go_wp2_with (at_builtin; refine wpList_append_own_at _ rfl _ _ 25 rfl w.heap.size 28 i0 (.agg #[.int .i64 0, .int .i64 0]) 2 16 Tryd.underlying25 hi0 hz0 hz1 hz2 rfl (by decide) (.slice ao pre.length capo) pre.length (flat2 pre) rfl (World.ownsRow.alloc HOwn.out _) ⟨w3.heap.size, 0, none⟩ 1 1 [.int .i64 xt, .int .i64 xi] rfl rfl (et_cells_new _ _ _ _ _ (by simp)) (by simp [Value.oneCell']) (by unfold maxLen; omega) (by omega) (by simp; omega) ?_; intro v6 w6 own6 gr6 _ at6; obtain ⟨a6, c6, rfl, hM⟩ := post.out v6 w6 own6 gr6 at6; have HM := Lib.hid hM; clear hM own6 gr6 at6 c0 c1)
                      refine (WithoutP HM.out.pl hk0l (by omega)).mono ?_
                      rintro e w7 ⟨a', c', rfl, h7, f7, o7⟩
                      have HU7 := Lib.hid (HM.out.next HT3.out hle h7 f7 o7)
                      have hle2 : (L2.eraseIdx k0).length + 1 = L2.length := by rw [List.length_eraseIdx_of_lt hk0l]; omega
                      have Hle2 := Lib.hid hle2
                      clear h7 f7 o7 HM hle2
                      go_wp2
                      go_roundw
                      case rel => exact ⟨L2.eraseIdx k0, a', c', pre ++ [⟨xt, xi, xs9⟩], rest', a6, c6, rfl, by simp, HU7.out⟩
                      case measure => have := Hle2.out; simp only [slLen]; omega
              · rcases (by omega : x1 < 0 ∨ 0 ≤ x1 ∧ 1000000 < x1 ∨ 0 ≤ x1 ∧ x1 ≤ 1000000) with c | ⟨c, c2⟩ | ⟨c, c2⟩
                · have hu : untilC now x1 = 1 := by unfold untilC; rw [if_pos (by omega)]
                  have HN := UntilP_no HP.out hc
                  rw [hu] at HN
                  have HN := Lib.hid HN
                  clear hc hu d0
                  have d0 := HC0.out wr Hwr.out
                  go_wp2_with fail
                  refine HN.out.mono ?_
                  rintro e w2 ⟨rfl, rfl⟩
                  go_wp2_with fail
                  refine (Err1 1 (by decide) wr (HG.out wr Hwr.out)).mono ?_
                  rintro e w3 ⟨rfl, b3⟩
                  have H3 := Lib.hid (HP.out.to b3)
                  clear b3 d0 d1
                  go_wp2_with fail
                  refine (events_same [] none none 0 0 0 0 0 rfl w3 (EtOwn.nil _ _) (EtOwn.nil _ _) (by simp)).mono ?_
                  rintro e w4 ⟨rfl, n4, rfl⟩
                  have H4 := Lib.hid (H3.out.drewN n4)
                  generalize w3.drewN n4 = w5 at H4 ⊢
                  go_wp2_with fail
                  refine (NowP H4.out).mono ?_
                  rintro e w8 ⟨rfl, rfl⟩
                  go_wp2_with fail
                  refine (ManyL H4.out HT.out).mono ?_
                  rintro e w9 ⟨rfl, rfl⟩
                  go_wp2
                  go_roundw
                  case rel => exact ⟨k + 1, by go_num, by omega, by omega, L, q, F, a, cap, now, seq, rfl, rfl, H4.out, HT.out, by have := Hsk.out; omega⟩
                  case measure => simp only [intOf]; omega
                · have hu : untilC now x1 = 1 := by unfold untilC; rw [if_pos (by omega)]
                  have HN := UntilP_no HP.out hc
                  rw [hu] at HN
                  have HN := Lib.hid HN
                  clear hc hu d0
                  have d0 := HC0.out wr Hwr.out
                  go_wp2_with fail
                  refine HN.out.mono ?_
                  rintro e w2 ⟨rfl, rfl⟩
                  go_wp2_with fail
                  refine (Err1 1 (by decide) wr (HG.out wr Hwr.out)).mono ?_
                  rintro e w3 ⟨rfl, b3⟩
                  have H3 := Lib.hid (HP.out.to b3)
                  clear b3 d0 d1
                  go_wp2_with fail
                  refine (events_same [] none none 0 0 0 0 0 rfl w3 (EtOwn.nil _ _) (EtOwn.nil _ _) (by simp)).mono ?_
                  rintro e w4 ⟨rfl, n4, rfl⟩
                  have H4 := Lib.hid (H3.out.drewN n4)
                  generalize w3.drewN n4 = w5 at H4 ⊢
                  go_wp2_with fail
                  refine (NowP H4.out).mono ?_
                  rintro e w8 ⟨rfl, rfl⟩
                  go_wp2_with fail
                  refine (ManyL H4.out HT.out).mono ?_
                  rintro e w9 ⟨rfl, rfl⟩
                  go_wp2
                  go_roundw
                  case rel => exact ⟨k + 1, by go_num, by omega, by omega, L, q, F, a, cap, now, seq, rfl, rfl, H4.out, HT.out, by have := Hsk.out; omega⟩
                  case measure => simp only [intOf]; omega
                · have c3 : x1 < now := by
                    rcases Int.lt_or_le x1 now with d | d
                    · exact d
                    · exact absurd (show untilC now x1 = 0 by unfold untilC; rw [if_neg (by omega), if_neg (by omega)]) hc
                  have hu : untilC now x1 = 8 := by unfold untilC; rw [if_neg (by omega), if_pos c3]
                  have HN := UntilP_no HP.out hc
                  rw [hu] at HN
                  have HN := Lib.hid HN
                  clear hc hu d0
                  have d0 := HC0.out wr Hwr.out
                  go_wp2_with fail
                  refine HN.out.mono ?_
                  rintro e w2 ⟨rfl, rfl⟩
                  go_wp2_with fail
                  refine (Err1 8 (by decide) wr (HG.out wr Hwr.out)).mono ?_
                  rintro e w3 ⟨rfl, b3⟩
                  have H3 := Lib.hid (HP.out.to b3)
                  clear b3 d0 d1
                  go_wp2_with fail
                  refine (events_same [] none none 0 0 0 0 0 rfl w3 (EtOwn.nil _ _) (EtOwn.nil _ _) (by simp)).mono ?_
                  rintro e w4 ⟨rfl, n4, rfl⟩
                  have H4 := Lib.hid (H3.out.drewN n4)
                  generalize w3.drewN n4 = w5 at H4 ⊢
                  go_wp2_with fail
                  refine (NowP H4.out).mono ?_
                  rintro e w8 ⟨rfl, rfl⟩
                  go_wp2_with fail
                  refine (ManyL H4.out HT.out).mono ?_
                  rintro e w9 ⟨rfl, rfl⟩
                  go_wp2
                  go_roundw
                  case rel => exact ⟨k + 1, by go_num, by omega, by omega, L, q, F, a, cap, now, seq, rfl, rfl, H4.out, HT.out, by have := Hsk.out; omega⟩
                  case measure => simp only [intOf]; omega
          · have h1b : (x0 == 1) = false := beq_eq_false_iff_ne.2 h1
            by_cases h2 : x0 = 2
            · subst h2
              as_aux_lemma =>
                clear h0 h1 h0b h1b d1
                have hLI : (L.length : Int) ≤ 60 := by omega
                go_wp2
                clear d0 d2
                go_loopw [4, 17, 18] (fun lv nv kv wr2 => ∃ (D : List Ev) (a2 : Option Addr) (c2 : Nat) (n z : Int), lv = .slice a2 D.length c2 ∧ nv = .int .i64 n ∧ kv = .int .i64 z ∧ 0 ≤ n ∧ n ≤ 60 ∧ (∃ j : Nat, z = (j : Int) - 1 ∧ j ≤ L.length ∧ D = dropAt (offId x2) L j ∧ n + D.length = L.length) ∧ PlW w wr2 S F a2 c2 D q now seq) (fun _ _ kv _ => (intOf kv + 1).toNat)
                case atStart => exact ⟨L, a, cap, 0, _, rfl, rfl, rfl, by omega, by omega, ⟨L.length, rfl, Nat.le_refl _, (dropAt_all _ _).symm, by omega⟩, HP.out⟩
                case round =>
                  obtain ⟨D, a2, c2, n, z, rfl, rfl, rfl, hn0, hn60, ⟨j, hz, hj, hD, hnD⟩, hW⟩ := hrel
                  have d2 := HC2.out wr hW.below
                  have HW := Lib.hid hW
                  have hDl : D.length ≤ 60 := by omega
                  rcases j with _ | j
                  · obtain rfl : z = -1 := by simpa using hz
                    rw [dropAt_zero] at hD
                    have hTf := HT.out.filter (offId x2)
                    have hnn : ((q.filter (sameId x2)).length : Int) = n := by
                      have e1 := filter_two x2 q
                      have e2 := hTf.len
                      have e3 := HT.out.len
                      rw [hD] at hnD
                      omega
                    have HN := Lib.hid (DropP x2 hW)
                    rw [hnn] at HN
                    rw [← hD] at hTf
                    have HTf := Lib.hid hTf
                    have HDf := Lib.hid hD
                    clear hz hj hD hnD hW hTf hnn
                    go_wp2_with fail
                    refine HN.out.mono ?_
                    rintro e w2 ⟨rfl, F2, h2⟩
                    have H2 := Lib.hid h2
                    clear h2 d2
                    go_wp2_with fail
                    refine (NowP H2.out).mono ?_
                    rintro e w8 ⟨rfl, rfl⟩
                    go_wp2_with fail
                    refine (ManyL H2.out HTf.out).mono ?_
                    rintro e w9 ⟨rfl, rfl⟩
                    go_wp2
                    go_roundw
                    case rel => exact ⟨k + 1, by go_num, by omega, by omega, D, (q.filter (offId x2)), F2, a2, c2, now, seq, rfl, rfl, H2.out, HTf.out, by have := Hsk.out; omega⟩
                    case measure => simp only [intOf]; omega
                  · obtain rfl : z = (j : Int) := by omega
                    have hjL : j < L.length := by omega
                    have hget := dropAt_get (offId x2) hjL
                    have hkeep := dropAt_keep (p := offId x2) hjL
                    have hdrop := dropAt_drop (p := offId x2) hjL
                    rw [← hD] at hget hkeep hdrop
                    obtain ⟨hg1, hjD⟩ := hget
                    obtain ⟨g, hga, _, _, hcl⟩ := hW.row.open (by omega)
                    obtain ⟨_, c1⟩ := hcl j hjD
                    rw [hg1] at c1
                    subst hga
                    have hjI : (j : Int) < (D.length : Int) := by omega
                    have hj0 : (0 : Int) ≤ (j : Int) := by omega
                    have hj60 : (j : Int) ≤ 60 := by omega
                    by_cases hid : (L.getD j e0).id = x2
                    · have hp : offId x2 (L.getD j e0) = false := by unfold offId sameId; rw [hid]; simp
                      have HD2 := Lib.hid (hdrop hp)
                      have hnJ : n ≤ 59 := by omega
                      have hE := List.length_eraseIdx_of_lt hjD
                      have hnD2 : n + 1 + ((D.eraseIdx j).length : Int) = L.length := by rw [hE]; omega
                      have HnD2 := Lib.hid hnD2
                      rw [hid] at c1
                      clear hz hj hD hnD hg1 hkeep hdrop hcl hp hid hE hnD2 hW
                      go_wp2
                      go_quiet (fail)
                      have H2 := Lib.hid (HW.out.drewN nq)
                      generalize wr.drewN nq = w2 at H2 ⊢
                      clear c1 d2
                      go_wp2_with fail
                      refine (WithoutP H2.out hjD (by omega)).mono ?_
                      rintro e w3 ⟨a', c', rfl, h3, _, _⟩
                      have H3 := Lib.hid h3
                      clear h3
                      go_wp2
                      go_roundw
                      case rel => exact ⟨D.eraseIdx j, a', c', n + 1, (j : Int) - 1, rfl, rfl, rfl, by omega, by omega, ⟨j, rfl, by omega, HD2.out.symm, HnD2.out⟩, H3.out⟩
                      case measure => simp only [intOf]; omega
                    · have hp : offId x2 (L.getD j e0) = true := by unfold offId sameId; rw [decide_eq_false hid]; rfl
                      have HD2 := Lib.hid (hkeep hp)
                      have HnD := Lib.hid hnD
                      generalize (L.getD j e0).id = y at *
                      have hyb : (y == x2) = false := by rw [beq_eq_false_iff_ne]; exact hid
                      clear hz hj hD hnD hg1 hkeep hdrop hcl hp hid hW
                      go_wp2
                      go_quiet (fail)
                      go_wp2
                      go_roundw
                      case rel => exact ⟨D, some ⟨g, 0, none⟩, c2, n, (j : Int) - 1, rfl, rfl, rfl, by omega, by omega, ⟨j, rfl, by omega, HD2.out.symm, HnD.out⟩, HW.out.drewN _⟩
                      case measure => simp only [intOf]; omega
            · have h2b : (x0 == 2) = false := beq_eq_false_iff_ne.2 h2
              clear h0 h1 h2
              as_aux_lemma =>
                rcases (by omega : x1 < 0 ∨ 0 ≤ x1 ∧ 1000000 < x1 ∨ 0 ≤ x1 ∧ x1 ≤ 1000000 ∧ x2 < 0 ∨ 0 ≤ x1 ∧ x1 ≤ 1000000 ∧ 0 ≤ x2 ∧ 1000000 < x2 ∨ 0 ≤ x1 ∧ x1 ≤ 1000000 ∧ 0 ≤ x2 ∧ x2 ≤ 1000000 ∧ x1 < now ∨ 0 ≤ x1 ∧ x1 ≤ 1000000 ∧ 0 ≤ x2 ∧ x2 ≤ 1000000 ∧ now ≤ x1 ∧ 60 ≤ L.length ∨ 0 ≤ x1 ∧ x1 ≤ 1000000 ∧ 0 ≤ x2 ∧ x2 ≤ 1000000 ∧ now ≤ x1 ∧ L.length < 60) with g1 | ⟨g1, g2⟩ | ⟨g1, g2, g3⟩ | ⟨g1, g2, g3, g4⟩ | ⟨g1, g2, g3, g4, g5⟩ | ⟨g1, g2, g3, g4, g5, g6⟩ | ⟨g1, g2, g3, g4, g5, g6⟩
                · have hu : planC q now x1 x2 = 1 := by unfold planC; rw [if_pos (by omega)]
                  have HN := PlanP_no (t := x1) (id := x2) (HP.out.drewN 1) (by rw [hu]; decide)
                  rw [hu] at HN
                  have HN : Hid (Calls Tryd.prog 12 #[.pointer (some ⟨S, 0, none⟩), .agg #[.int .i64 x1, .int .i64 x2]] wr.drew fun e w' => e = .returned (.iface 50 (.int .i64 1)) ∧ PlW w w' S F a cap L q now seq) := Lib.hid HN
                  have HT3 := HT
                  clear hu
                  go_upto_region 20 with fail
                  go_region_held3 (fun w' => w'.cell? ⟨bi, oi + 1, none⟩ = some (.int .i64 x1) ∧ w'.cell? ⟨bi, oi + 2, none⟩ = some (.int .i64 x2))
                    (first | go_keep | exact ⟨HC1.out _ H3.out.below, HC2.out _ H3.out.below⟩ | exact ⟨HC1.out _ H2.out.below, HC2.out _ H2.out.below⟩)
                    (first | (go_at_call 12; refine HN.out.mono ?_; rintro e w2 ⟨rfl, h2⟩; have H2 := Lib.hid h2; clear h2) | (go_at_call 8; refine (Err1 1 (by decide) _ (HG.out _ H2.out.below)).mono ?_; rintro e w3 ⟨rfl, b3⟩; have H3 := Lib.hid (H2.out.to b3); clear b3))
                  go_wp2_with fail
                  refine (NowP H3.out).mono ?_
                  rintro e w8 ⟨rfl, rfl⟩
                  go_wp2_with fail
                  refine (ManyL H3.out HT3.out).mono ?_
                  rintro e w9 ⟨rfl, rfl⟩
                  go_wp2
                  go_roundw
                  case rel => exact ⟨k + 1, by go_num, by omega, by omega, L, q, F, a, cap, now, seq, rfl, rfl, H3.out, HT3.out, by have := Hsk.out; omega⟩
                  case measure => simp only [intOf]; omega
                · have hu : planC q now x1 x2 = 1 := by unfold planC; rw [if_pos (by omega)]
                  have HN := PlanP_no (t := x1) (id := x2) (HP.out.drewN 1) (by rw [hu]; decide)
                  rw [hu] at HN
                  have HN : Hid (Calls Tryd.prog 12 #[.pointer (some ⟨S, 0, none⟩), .agg #[.int .i64 x1, .int .i64 x2]] wr.drew fun e w' => e = .returned (.iface 50 (.int .i64 1)) ∧ PlW w w' S F a cap L q now seq) := Lib.hid HN
                  have HT3 := HT
                  clear hu
                  go_upto_region 20 with fail
                  go_region_held3 (fun w' => w'.cell? ⟨bi, oi + 1, none⟩ = some (.int .i64 x1) ∧ w'.cell? ⟨bi, oi + 2, none⟩ = some (.int .i64 x2))
                    (first | go_keep | exact ⟨HC1.out _ H3.out.below, HC2.out _ H3.out.below⟩ | exact ⟨HC1.out _ H2.out.below, HC2.out _ H2.out.below⟩)
                    (first | (go_at_call 12; refine HN.out.mono ?_; rintro e w2 ⟨rfl, h2⟩; have H2 := Lib.hid h2; clear h2) | (go_at_call 8; refine (Err1 1 (by decide) _ (HG.out _ H2.out.below)).mono ?_; rintro e w3 ⟨rfl, b3⟩; have H3 := Lib.hid (H2.out.to b3); clear b3))
                  go_wp2_with fail
                  refine (NowP H3.out).mono ?_
                  rintro e w8 ⟨rfl, rfl⟩
                  go_wp2_with fail
                  refine (ManyL H3.out HT3.out).mono ?_
                  rintro e w9 ⟨rfl, rfl⟩
                  go_wp2
                  go_roundw
                  case rel => exact ⟨k + 1, by go_num, by omega, by omega, L, q, F, a, cap, now, seq, rfl, rfl, H3.out, HT3.out, by have := Hsk.out; omega⟩
                  case measure => simp only [intOf]; omega
                · have hu : planC q now x1 x2 = 1 := by unfold planC; rw [if_pos (by omega)]
                  have HN := PlanP_no (t := x1) (id := x2) (HP.out.drewN 1) (by rw [hu]; decide)
                  rw [hu] at HN
                  have HN : Hid (Calls Tryd.prog 12 #[.pointer (some ⟨S, 0, none⟩), .agg #[.int .i64 x1, .int .i64 x2]] wr.drew fun e w' => e = .returned (.iface 50 (.int .i64 1)) ∧ PlW w w' S F a cap L q now seq) := Lib.hid HN
                  have HT3 := HT
                  clear hu
                  go_upto_region 20 with fail
                  go_region_held3 (fun w' => w'.cell? ⟨bi, oi + 1, none⟩ = some (.int .i64 x1) ∧ w'.cell? ⟨bi, oi + 2, none⟩ = some (.int .i64 x2))
                    (first | go_keep | exact ⟨HC1.out _ H3.out.below, HC2.out _ H3.out.below⟩ | exact ⟨HC1.out _ H2.out.below, HC2.out _ H2.out.below⟩)
                    (first | (go_at_call 12; refine HN.out.mono ?_; rintro e w2 ⟨rfl, h2⟩; have H2 := Lib.hid h2; clear h2) | (go_at_call 8; refine (Err1 1 (by decide) _ (HG.out _ H2.out.below)).mono ?_; rintro e w3 ⟨rfl, b3⟩; have H3 := Lib.hid (H2.out.to b3); clear b3))
                  go_wp2_with fail
                  refine (NowP H3.out).mono ?_
                  rintro e w8 ⟨rfl, rfl⟩
                  go_wp2_with fail
                  refine (ManyL H3.out HT3.out).mono ?_
                  rintro e w9 ⟨rfl, rfl⟩
                  go_wp2
                  go_roundw
                  case rel => exact ⟨k + 1, by go_num, by omega, by omega, L, q, F, a, cap, now, seq, rfl, rfl, H3.out, HT3.out, by have := Hsk.out; omega⟩
                  case measure => simp only [intOf]; omega
                · have hu : planC q now x1 x2 = 1 := by unfold planC; rw [if_pos (by omega)]
                  have HN := PlanP_no (t := x1) (id := x2) (HP.out.drewN 1) (by rw [hu]; decide)
                  rw [hu] at HN
                  have HN : Hid (Calls Tryd.prog 12 #[.pointer (some ⟨S, 0, none⟩), .agg #[.int .i64 x1, .int .i64 x2]] wr.drew fun e w' => e = .returned (.iface 50 (.int .i64 1)) ∧ PlW w w' S F a cap L q now seq) := Lib.hid HN
                  have HT3 := HT
                  clear hu
                  go_upto_region 20 with fail
                  go_region_held3 (fun w' => w'.cell? ⟨bi, oi + 1, none⟩ = some (.int .i64 x1) ∧ w'.cell? ⟨bi, oi + 2, none⟩ = some (.int .i64 x2))
                    (first | go_keep | exact ⟨HC1.out _ H3.out.below, HC2.out _ H3.out.below⟩ | exact ⟨HC1.out _ H2.out.below, HC2.out _ H2.out.below⟩)
                    (first | (go_at_call 12; refine HN.out.mono ?_; rintro e w2 ⟨rfl, h2⟩; have H2 := Lib.hid h2; clear h2) | (go_at_call 8; refine (Err1 1 (by decide) _ (HG.out _ H2.out.below)).mono ?_; rintro e w3 ⟨rfl, b3⟩; have H3 := Lib.hid (H2.out.to b3); clear b3))
                  go_wp2_with fail
                  refine (NowP H3.out).mono ?_
                  rintro e w8 ⟨rfl, rfl⟩
                  go_wp2_with fail
                  refine (ManyL H3.out HT3.out).mono ?_
                  rintro e w9 ⟨rfl, rfl⟩
                  go_wp2
                  go_roundw
                  case rel => exact ⟨k + 1, by go_num, by omega, by omega, L, q, F, a, cap, now, seq, rfl, rfl, H3.out, HT3.out, by have := Hsk.out; omega⟩
                  case measure => simp only [intOf]; omega
                · have hu : planC q now x1 x2 = 8 := by unfold planC; rw [if_neg (by omega), if_pos (by omega)]
                  have HN := PlanP_no (t := x1) (id := x2) (HP.out.drewN 1) (by rw [hu]; decide)
                  rw [hu] at HN
                  have HN : Hid (Calls Tryd.prog 12 #[.pointer (some ⟨S, 0, none⟩), .agg #[.int .i64 x1, .int .i64 x2]] wr.drew fun e w' => e = .returned (.iface 50 (.int .i64 8)) ∧ PlW w w' S F a cap L q now seq) := Lib.hid HN
                  have HT3 := HT
                  clear hu
                  go_upto_region 20 with fail
                  go_region_held3 (fun w' => w'.cell? ⟨bi, oi + 1, none⟩ = some (.int .i64 x1) ∧ w'.cell? ⟨bi, oi + 2, none⟩ = some (.int .i64 x2))
                    (first | go_keep | exact ⟨HC1.out _ H3.out.below, HC2.out _ H3.out.below⟩ | exact ⟨HC1.out _ H2.out.below, HC2.out _ H2.out.below⟩)
                    (first | (go_at_call 12; refine HN.out.mono ?_; rintro e w2 ⟨rfl, h2⟩; have H2 := Lib.hid h2; clear h2) | (go_at_call 8; refine (Err1 8 (by decide) _ (HG.out _ H2.out.below)).mono ?_; rintro e w3 ⟨rfl, b3⟩; have H3 := Lib.hid (H2.out.to b3); clear b3))
                  go_wp2_with fail
                  refine (NowP H3.out).mono ?_
                  rintro e w8 ⟨rfl, rfl⟩
                  go_wp2_with fail
                  refine (ManyL H3.out HT3.out).mono ?_
                  rintro e w9 ⟨rfl, rfl⟩
                  go_wp2
                  go_roundw
                  case rel => exact ⟨k + 1, by go_num, by omega, by omega, L, q, F, a, cap, now, seq, rfl, rfl, H3.out, HT3.out, by have := Hsk.out; omega⟩
                  case measure => simp only [intOf]; omega
                · have hu : planC q now x1 x2 = 4 := by unfold planC; rw [if_neg (by omega), if_neg (by omega), if_pos (by have := HT.out.len; omega)]
                  have HN := PlanP_no (t := x1) (id := x2) (HP.out.drewN 1) (by rw [hu]; decide)
                  rw [hu] at HN
                  have HN : Hid (Calls Tryd.prog 12 #[.pointer (some ⟨S, 0, none⟩), .agg #[.int .i64 x1, .int .i64 x2]] wr.drew fun e w' => e = .returned (.iface 50 (.int .i64 4)) ∧ PlW w w' S F a cap L q now seq) := Lib.hid HN
                  have HT3 := HT
                  clear hu
                  have g6I : (60 : Int) ≤ (L.length : Int) := by omega
                  go_upto_region 20 with fail
                  go_region_held3 (fun w' => w'.cell? ⟨bi, oi + 1, none⟩ = some (.int .i64 x1) ∧ w'.cell? ⟨bi, oi + 2, none⟩ = some (.int .i64 x2))
                    (first | go_keep | exact ⟨HC1.out _ H3.out.below, HC2.out _ H3.out.below⟩ | exact ⟨HC1.out _ H2.out.below, HC2.out _ H2.out.below⟩)
                    (first | (go_at_call 12; refine HN.out.mono ?_; rintro e w2 ⟨rfl, h2⟩; have H2 := Lib.hid h2; clear h2) | (go_at_call 8; refine (Err1 4 (by decide) _ (HG.out _ H2.out.below)).mono ?_; rintro e w3 ⟨rfl, b3⟩; have H3 := Lib.hid (H2.out.to b3); clear b3))
                  go_wp2_with fail
                  refine (NowP H3.out).mono ?_
                  rintro e w8 ⟨rfl, rfl⟩
                  go_wp2_with fail
                  refine (ManyL H3.out HT3.out).mono ?_
                  rintro e w9 ⟨rfl, rfl⟩
                  go_wp2
                  go_roundw
                  case rel => exact ⟨k + 1, by go_num, by omega, by omega, L, q, F, a, cap, now, seq, rfl, rfl, H3.out, HT3.out, by have := Hsk.out; omega⟩
                  case measure => simp only [intOf]; omega
                · have hu : planC q now x1 x2 = 0 := by unfold planC; rw [if_neg (by omega), if_neg (by omega), if_neg (by have := HT.out.len; omega)]
                  have HT3 := Lib.hid (HT.out.plan x1 x2)
                  have Hu := Lib.hid hu
                  have g6I : (L.length : Int) < 60 := by omega
                  have hsz := Hwr.out.size
                  obtain ⟨i0, hi0, hz0, hz1, hz2⟩ := info_parts etInfo
                  clear hu
                  rcases HP.out.row.two with ⟨rfl, rfl, rfl⟩ | ⟨g, rfl, hgl, hfrom⟩
                  · have HP1 : Hid (PlC w wr wr S F none 0 [] q now seq (.slice none 0 0)) := Lib.hid ⟨HP.out, World.ownsRow_nil _ _ _ _, Below.refl _ _⟩
                    go_wp2_with (at_builtin; refine wpList_append_own_none _ rfl (.tmp 71) (.tmp 72) 25 rfl wr.heap.size 28 i0 2 Tryd.underlying25 hi0 (.slice none 0 0) 0 [] rfl (World.ownsRow_nil _ _ _ _) rfl ?_; clear d0 d1 d2)
                    have hB1 := HP1.out.below.size
                    have hP2 := Lib.hid (fun x w2 b2 gg c3 w3 own gr => HP1.out.push HP.out (w2 := w2) (w3 := w3) (g := gg) (c := c3) x b2 own gr)
                    have e1 := HC1.out wr HP1.out.pl.below
                    have e2 := HC2.out wr HP1.out.pl.below
                    have hown := HP1.out.own
                    go_upto_region 19 with fail
                    go_region_held3 (fun w' => w'.cell? ⟨bi, oi + 1, none⟩ = some (.int .i64 x1) ∧ w'.cell? ⟨bi, oi + 2, none⟩ = some (.int .i64 x2))
                      (first | go_keep | exact ⟨HC1.out _ HP3.out.below, HC2.out _ HP3.out.below⟩)
                      ((refine step_append_lies _ (by rfl) _ _ _ (by rfl) wr.heap.size 28 i0 (.agg #[.int .i64 0, .int .i64 0]) 2 16 Tryd.underlying25 hi0 hz0 hz1 hz2 rfl (by decide) (.slice none 0 0) ([] : List Ev).length [] (by rfl) (World.ownsRow.alloc (World.ownsRow.drew hown) _) ⟨wr.heap.size, 0, none⟩ 1 1 [.int .i64 x1, .int .i64 x2] (by rfl) (by rfl) (World.news_of_block (cs := #[.int .i64 x1, .int .i64 x2]) (t := 28) (fr := (0, 0)) (heap_alloc_new _ _)) (by simp [Value.oneCell']) (by omega) (by unfold maxLen; try simp) (by try simp) (by simp; try omega) (wr.heap.size + 1) (by simp) ?_; intro gg c3 w3 own3 gr3 _ _; have HP3 := Lib.hid (hP2.out ⟨x1, x2, seq + 1⟩ _ (((Below.refl _ wr).drew).alloc (Nat.le_refl _) _) gg c3 w3 own3 gr3); clear own3 gr3))
                    have HN : Hid (Calls Tryd.prog 12 #[.pointer (some ⟨S, 0, none⟩), .agg #[.int .i64 x1, .int .i64 x2]] w3.drew fun e w' => e = .returned .nilIface ∧ ∃ F', PlW w w' S F' (some ⟨gg, 0, none⟩) c3 ([] ++ [⟨x1, x2, seq + 1⟩]) (ins ⟨x1, x2, seq + 1⟩ q) now (seq + 1)) := Lib.hid (PlanP_yes (HP3.out.drewN 1) Hu.out hs1)
                    have d1 := HC1.out w3 HP3.out.below
                    have d2 := HC2.out w3 HP3.out.below
                    clear e1 e2 hown hP2 HP1
                    go_upto_region 20 with fail
                    go_region_held3 (fun w' => w'.cell? ⟨bi, oi + 1, none⟩ = some (.int .i64 x1) ∧ w'.cell? ⟨bi, oi + 2, none⟩ = some (.int .i64 x2))
                      (first | go_keep | exact ⟨HC1.out _ H3.out.below, HC2.out _ H3.out.below⟩ | exact ⟨HC1.out _ H2.out.below, HC2.out _ H2.out.below⟩)
                      (first | (go_at_call 12; refine HN.out.mono ?_; rintro e w2 ⟨rfl, F2, h2⟩; have H2 := Lib.hid h2; clear h2) | (go_at_call 8; refine (Err0 _ (HG.out _ H2.out.below)).mono ?_; rintro e w3 ⟨rfl, b3⟩; have H3 := Lib.hid (H2.out.to b3); clear b3))
                    go_wp2_with fail
                    refine (NowP H3.out).mono ?_
                    rintro e w8 ⟨rfl, rfl⟩
                    go_wp2_with fail
                    refine (ManyL H3.out HT3.out).mono ?_
                    rintro e w9 ⟨rfl, rfl⟩
                    go_wp2
                    go_roundw
                    case rel => exact ⟨k + 1, by go_num, by omega, by omega, ([] ++ [⟨x1, x2, seq + 1⟩]), (ins ⟨x1, x2, seq + 1⟩ q), F2, (some ⟨gg, 0, none⟩), c3, now, (seq + 1), by simp, rfl, H3.out, HT3.out, by have := Hsk.out; omega⟩
                    case measure => simp only [intOf]; omega
                  · have HFr := Lib.hid hfrom
                    have post := Lib.hid (fun v1 w1 o1 g1 => HP.out.copy (v := v1) (w1 := w1) o1 g1)
                    clear hfrom
                    go_wp2_with (at_builtin; refine wpList_append_own _ rfl (.tmp 71) (.tmp 72) 25 rfl wr.heap.size 28 i0 (.agg #[.int .i64 0, .int .i64 0]) 2 16 Tryd.underlying25 hi0 hz0 hz1 hz2 rfl (by decide) (.slice none 0 0) 0 [] rfl (World.ownsRow_nil _ _ _ _) ⟨g, 0, none⟩ L.length cap (flat2 L) rfl (flat2_length L) HFr.out (one_cells2 _) (by unfold maxLen; omega) (by omega) (Nat.le_refl _) ?_; intro v1 w1 o1 g1 _; have HO1 := Lib.hid o1; have HP1 := Lib.hid (post.out v1 w1 o1 g1); clear o1 g1 d1 d2 d0)
                    have hB1 := HP1.out.below.size
                    have hP2 := Lib.hid (fun x w2 b2 gg c3 w3 own gr => HP1.out.push HP.out (w2 := w2) (w3 := w3) (g := gg) (c := c3) x b2 own gr)
                    have e1 := HC1.out w1 HP1.out.pl.below
                    have e2 := HC2.out w1 HP1.out.pl.below
                    have hown := HP1.out.own
                    go_upto_region 19 with fail
                    go_region_held3 (fun w' => w'.cell? ⟨bi, oi + 1, none⟩ = some (.int .i64 x1) ∧ w'.cell? ⟨bi, oi + 2, none⟩ = some (.int .i64 x2))
                      (first | go_keep | exact ⟨HC1.out _ HP3.out.below, HC2.out _ HP3.out.below⟩)
                      ((refine step_append_lies _ (by rfl) _ _ _ (by rfl) wr.heap.size 28 i0 (.agg #[.int .i64 0, .int .i64 0]) 2 16 Tryd.underlying25 hi0 hz0 hz1 hz2 rfl (by decide) v1 L.length (flat2 L) (by rfl) (World.ownsRow.alloc (World.ownsRow.drew hown) _) ⟨w1.heap.size, 0, none⟩ 1 1 [.int .i64 x1, .int .i64 x2] (by rfl) (by rfl) (World.news_of_block (cs := #[.int .i64 x1, .int .i64 x2]) (t := 28) (fr := (0, 0)) (heap_alloc_new _ _)) (by simp [Value.oneCell']) (by omega) (by unfold maxLen; omega) (by omega) (by simp; try omega) (w1.heap.size + 1) (by simp) ?_; intro gg c3 w3 own3 gr3 _ _; have HP3 := Lib.hid (hP2.out ⟨x1, x2, seq + 1⟩ _ (((Below.refl _ w1).drew).alloc (Nat.le_refl _) _) gg c3 w3 own3 gr3); clear own3 gr3))
                    have HN : Hid (Calls Tryd.prog 12 #[.pointer (some ⟨S, 0, none⟩), .agg #[.int .i64 x1, .int .i64 x2]] w3.drew fun e w' => e = .returned .nilIface ∧ ∃ F', PlW w w' S F' (some ⟨gg, 0, none⟩) c3 (L ++ [⟨x1, x2, seq + 1⟩]) (ins ⟨x1, x2, seq + 1⟩ q) now (seq + 1)) := Lib.hid (PlanP_yes (HP3.out.drewN 1) Hu.out hs1)
                    have d1 := HC1.out w3 HP3.out.below
                    have d2 := HC2.out w3 HP3.out.below
                    clear e1 e2 hown hP2 HP1
                    go_upto_region 20 with fail
                    go_region_held3 (fun w' => w'.cell? ⟨bi, oi + 1, none⟩ = some (.int .i64 x1) ∧ w'.cell? ⟨bi, oi + 2, none⟩ = some (.int .i64 x2))
                      (first | go_keep | exact ⟨HC1.out _ H3.out.below, HC2.out _ H3.out.below⟩ | exact ⟨HC1.out _ H2.out.below, HC2.out _ H2.out.below⟩)
                      (first | (go_at_call 12; refine HN.out.mono ?_; rintro e w2 ⟨rfl, F2, h2⟩; have H2 := Lib.hid h2; clear h2) | (go_at_call 8; refine (Err0 _ (HG.out _ H2.out.below)).mono ?_; rintro e w3 ⟨rfl, b3⟩; have H3 := Lib.hid (H2.out.to b3); clear b3))
                    go_wp2_with fail
                    refine (NowP H3.out).mono ?_
                    rintro e w8 ⟨rfl, rfl⟩
                    go_wp2_with fail
                    refine (ManyL H3.out HT3.out).mono ?_
                    rintro e w9 ⟨rfl, rfl⟩
                    go_wp2
                    go_roundw
                    case rel => exact ⟨k + 1, by go_num, by omega, by omega, (L ++ [⟨x1, x2, seq + 1⟩]), (ins ⟨x1, x2, seq + 1⟩ q), F2, (some ⟨gg, 0, none⟩), c3, now, (seq + 1), by simp, rfl, H3.out, HT3.out, by have := Hsk.out; omega⟩
                    case measure => simp only [intOf]; omega
    · have hor : m.length = k ∨ k = 120 := by omega
      have hor : (m.length : Int) ≤ (k : Int) ∨ (k : Int) < (m.length : Int) ∧ (120 : Int) ≤ (k : Int) := by omega
      clear hwr
      rcases hor with hf | ⟨hf1, hf2⟩
      all_goals
        go_wp2
        go_ret
        exact ⟨rfl, HP.out.below⟩
end Go.Proofs.YtominbodniikpaaDoor
