/- WALK: sim.Until. -/
import Derived.Test.YtominbodniikpaaDoorSimNext
import Derived.Test.YtominbodniikpaaDoorEtRow
namespace Go.Proofs.YtominbodniikpaaDoor
open Go Go.RowKit SimPlain HeapPlain

/-! ### plain -/
theorem till_split {pre rest : List Ev} {T : Int} (h : ∀ e ∈ pre, e.t ≤ T) (hr : ∀ x r, rest = x :: r → T < x.t) : (pre ++ rest).takeWhile (tillB T) = pre ∧ (pre ++ rest).dropWhile (tillB T) = rest := by
  induction pre with
  | nil =>
    cases rest with
    | nil => simp
    | cons x r =>
      have := hr x r rfl
      simp only [List.nil_append]
      rw [List.takeWhile_cons_of_neg (by simp [tillB]; omega), List.dropWhile_cons_of_neg (by simp [tillB]; omega)]
      exact ⟨rfl, rfl⟩
  | cons x pre ih =>
    have hx := h x (by simp)
    obtain ⟨i1, i2⟩ := ih fun e he => h e (List.mem_cons_of_mem _ he)
    rw [List.cons_append, List.takeWhile_cons_of_pos (by simpa [tillB] using hx), List.dropWhile_cons_of_pos (by simpa [tillB] using hx), i1, i2]
    exact ⟨rfl, rfl⟩
theorem Fine.till {q : List Ev} {now seq T : Int} (h : Fine q now seq) (hs : q.Pairwise Lt) (h1 : now ≤ T) (h2 : T ≤ 1000000) : Fine (q.dropWhile (tillB T)) T seq :=
  (h.sub (List.dropWhile_sublist _)).later h1 h2 (till_all hs T)
def slLen : Value → Nat
  | .slice _ n _ => n
  | _ => 0

theorem field_pl (x0 x1 x2 : Value) (w : World) : (Instr.field 46 (.agg #[x0, x1, x2]) 0).run Tryd.prog w = .ok (.agg #[x0, x1]) w := by kernel_rfl
theorem field_ev (x0 x1 : Value) (w : World) : (Instr.field 28 (.agg #[x0, x1]) 0).run Tryd.prog w = .ok x0 w := by kernel_rfl

/-! ### Until -/
def untilC (now T : Int) : Int := if T < 0 ∨ 1000000 < T then 1 else if T < now then 8 else 0
set_option maxRecDepth 100000 in
theorem Until_no (S B : Nat) (F : Nat → Prop) (q : List Ev) (now seq T : Int) (w : World) (h : SimQ w B S F q now seq) (hc : untilC now T ≠ 0) :
    Calls Tryd.prog 9 #[.pointer (some ⟨S, 0, none⟩), .int .i64 T] w fun e w' => e = .returned (.tuple #[.slice none 0 0, .iface 50 (.int .i64 (untilC now T))]) ∧ w = w' := by
  obtain ⟨H, a, cap, l, hG⟩ := h
  have c1 := hG.c1
  clear hG
  by_cases h1 : T < 0 ∨ 1000000 < T
  · have e : untilC now T = 1 := by unfold untilC; rw [if_pos h1]
    rw [e]
    have H1 := Lib.hid h1
    clear e hc h1
    go_enter Tryd.func9, Tryd.ntmps9
    go_wp2_with fail
    refine (within_no T 0 1000000 H1.out _).mono ?_
    rintro e w' ⟨rfl, rfl⟩
    go_wp2
    go_ret2
    exact ⟨rfl, rfl⟩
  · have t0 : 0 ≤ T := by omega
    have t1 : T ≤ 1000000 := by omega
    rcases Int.lt_or_le T now with h3 | h3
    · have e : untilC now T = 8 := by unfold untilC; rw [if_neg h1, if_pos h3]
      rw [e]
      clear e hc h1
      go_enter Tryd.func9, Tryd.ntmps9
      go_wp2_with fail
      refine (within_yes T 0 1000000 t0 t1 _).mono ?_
      rintro e w' ⟨rfl, rfl⟩
      go_wp2
      go_ret2
      exact ⟨rfl, rfl⟩
    · exact absurd (show untilC now T = 0 by unfold untilC; rw [if_neg h1, if_neg (by omega)]) hc
def UntilRes (w : World) (B S : Nat) (F : Nat → Prop) (q : List Ev) (seq T : Int) (e : Ending) (w' : World) : Prop :=
  ∃ ao capo, e = .returned (.tuple #[.slice ao (q.takeWhile (tillB T)).length capo, .nilIface]) ∧ EtOwn w' w.heap.size ao capo (q.takeWhile (tillB T)) ∧ SimQ w' B S F (q.dropWhile (tillB T)) T seq ∧ Only w w' F
/-- what the loop keeps -/
structure UntW (w : World) (B S : Nat) (F : Nat → Prop) (q : List Ev) (seq T : Int) (pre rest : List Ev) (ao : Option Addr) (capo : Nat) (now' : Int) (wr : World) : Prop where
  split : q = pre ++ rest
  own : EtOwn wr w.heap.size ao capo pre
  sim : SimQ wr B S F rest now' seq
  le : now' ≤ T
  only : Only w wr F
  pre_ : ∀ e ∈ pre, e.t ≤ T
theorem UntW.still {w : World} {B S : Nat} {F : Nat → Prop} {q : List Ev} {seq T : Int} {pre rest : List Ev} {ao : Option Addr} {capo : Nat} {now' : Int} {wr wx : World} (h : UntW w B S F q seq T pre rest ao capo now' wr) (o : Only wr wx (fun _ => False)) : UntW w B S F q seq T pre rest ao capo now' wx :=
  ⟨h.split, h.own.only o (fun _ c => c.elim), h.sim.only o (fun _ _ c => c), h.le, h.only.trans o (fun _ _ c => c.elim), h.pre_⟩
theorem UntW.next {w : World} {B S : Nat} {F : Nat → Prop} {q : List Ev} {seq T : Int} {pre rest : List Ev} {x : Ev} {ao : Option Addr} {capo : Nat} {now' : Int} {wr w2 w4 : World} {v : Value} (h : UntW w B S F q seq T pre (x :: rest) ao capo now' wr) (hF : ∀ k, F k → k < w.heap.size) (hx : x.t ≤ T)
    (hs : SimQ w2 B S F rest x.t seq) (o : Only wr w2 F) (o3 : World) (ho3 : Only w2 o3 (fun _ => False)) (own2 : w4.ownsRow w.heap.size 28 2 v (pre.length + 1) (flat2 pre ++ [.int .i64 x.t, .int .i64 x.id])) (gr : o3.grownBy w4 (Value.slice ao pre.length capo).ownBlock) :
    ∃ a3 c3, v = .slice a3 (pre.length + 1) c3 ∧ UntW w B S F q seq T (pre ++ [x]) rest a3 c3 x.t w4 := by
  obtain ⟨a3, c3, rfl, O⟩ := EtOwn.of (l := pre ++ [x]) (n := pre.length + 1) (by rw [flat2_append]; exact own2)
  have hlt := h.own.lt
  have og : Only o3 w4 (fun k => w.heap.size ≤ k) := ⟨gr.os, gr.tape, gr.output, gr.size, fun k hk hn => gr.block k hk (fun e => hn (hlt k e.symm).1)⟩
  refine ⟨a3, c3, by simp, by rw [h.split]; simp, O, (hs.only ho3 (fun _ _ c => c)).only og (fun k hk c => by have := hF k hk; omega), hx, ?_, fun e he => ?_⟩
  · exact ((h.only.trans o (fun _ _ c => c)).trans ho3 (fun _ _ c => c.elim)).trans og (fun k hk c => by omega)
  · rcases List.mem_append.1 he with he | he
    · exact h.pre_ e he
    · rw [List.mem_singleton] at he; rw [he]; exact hx
theorem SimG.setNow {w : World} {B S : Nat} {F : Nat → Prop} {H : Nat} {a : Option Addr} {cap : Nat} {l q : List Ev} {now seq : Int} (h : SimG w B S F H a cap l q now seq) (T : Int) (hf : Fine q T seq) : SimG (w.setCell ⟨S, 1, none⟩ (.int .i64 T)) B S F H a cap l q T seq := by
  have o : Only w (w.setCell ⟨S, 1, none⟩ (.int .i64 T)) (fun k => k = S) := Only.setCell w ⟨S, 1, none⟩ _ (fun k => k = S) rfl
  refine ⟨h.heap.only (o.mono fun k hk0 c hk => ?_), h.ord, h.perm, heap_setCell_same _ _ _ _ _ _ h.s, h.sH, h.sa, h.foot, h.fs, fun k hk => ?_, hf, h.sorted⟩
  · subst c
    rcases hk with hk | hk
    · exact h.sH hk
    · exact h.sa _ hk rfl
  · have := h.fb k hk; have := o.size; omega
theorem UntW.done {w : World} {B S : Nat} {F : Nat → Prop} {q : List Ev} {seq T : Int} {pre rest : List Ev} {ao : Option Addr} {capo : Nat} {now' : Int} {wr : World} (h : UntW w B S F q seq T pre rest ao capo now' wr) (hF : ∀ k, F k → k < w.heap.size) (hs : q.Pairwise Lt) (t1 : T ≤ 1000000) (hr : ∀ x r, rest = x :: r → T < x.t) :
    q.takeWhile (tillB T) = pre ∧ EtOwn (wr.setCell ⟨S, 1, none⟩ (.int .i64 T)) w.heap.size ao capo (q.takeWhile (tillB T)) ∧ SimQ (wr.setCell ⟨S, 1, none⟩ (.int .i64 T)) B S F (q.dropWhile (tillB T)) T seq ∧ Only w (wr.setCell ⟨S, 1, none⟩ (.int .i64 T)) F := by
  obtain ⟨e1, e2⟩ := till_split h.pre_ hr
  rw [← h.split] at e1 e2
  obtain ⟨H, a, cap, l, hG⟩ := h.sim
  have hall := till_all hs T
  rw [e2] at hall
  have o : Only wr (wr.setCell ⟨S, 1, none⟩ (.int .i64 T)) F := Only.setCell wr ⟨S, 1, none⟩ _ F hG.fs
  rw [e1, e2]
  exact ⟨rfl, h.own.only o hF, ⟨H, a, cap, l, hG.setNow T (hG.fine.later h.le t1 hall)⟩, h.only.trans o (fun _ _ c => c)⟩
set_option maxRecDepth 100000 in
set_option maxHeartbeats 4000000 in
theorem Until_yes (S B : Nat) (F : Nat → Prop) (q : List Ev) (now seq T : Int) (w : World) (h : SimQ w B S F q now seq) (hc : untilC now T = 0) :
    Calls Tryd.prog 9 #[.pointer (some ⟨S, 0, none⟩), .int .i64 T] w fun e w' => UntilRes w B S F q seq T e w' := by
  obtain ⟨i0, hi, hz0, hz1, hz2⟩ := info_parts etInfo
  have t0 : 0 ≤ T := by unfold untilC at hc; split at hc <;> omega
  have t1 : T ≤ 1000000 := by unfold untilC at hc; split at hc <;> omega
  have t2 : now ≤ T := by unfold untilC at hc; split at hc; omega; split at hc <;> omega
  have hF : ∀ k, F k → k < w.heap.size := fun k hk => (h.fb k hk).2
  have hm := h.fine.many
  have hsorted := h.sorted
  have h0 : UntW w B S F q seq T [] q none 0 now w := ⟨rfl, EtOwn.nil _ _, h, t2, Only.refl _ _, by simp⟩
  have c1 : w.cell? ⟨S, 1, none⟩ = some (.int .i64 now) := by obtain ⟨H, a, cap, l, hG⟩ := h; exact hG.c1
  have H0 := Lib.hid h0
  have HF := Lib.hid hF
  have HS := Lib.hid hsorted
  have fx0 := field_pl
  have fx1 := field_ev
  clear h hc h0 hF hsorted
  go_enter Tryd.func9, Tryd.ntmps9
  go_wp2_with fail
  refine (within_yes T 0 1000000 t0 t1 _).mono ?_
  rintro e w' ⟨rfl, rfl⟩
  go_wp2
  go_loopw [6] (fun out wr => ∃ (pre rest : List Ev) (ao : Option Addr) (capo : Nat) (now' : Int), out = .slice ao pre.length capo ∧ UntW w B S F q seq T pre rest ao capo now' wr) (fun out _ => q.length - slLen out)
  case atStart => exact ⟨[], q, none, 0, now, rfl, H0.out⟩
  case round =>
    obtain ⟨pre, rest, ao, capo, now', rfl, R⟩ := hrel
    obtain ⟨H, a, cap, l, hG⟩ := R.sim
    have d0 := hG.c0
    have d3 := hG.c3
    have hml := R.sim.fine.many
    have hpl : pre.length + rest.length = q.length := by rw [R.split]; simp
    cases rest with
    | nil =>
      have HG := Lib.hid hG
      have HR := Lib.hid R
      have g1 := hG.free 1
      have d1 := hG.c1
      have d3 : wr.cell? ⟨S, 3, none⟩ = some (.int .i64 0) := d3
      clear hG R
      go_wp2
      go_ret2
      obtain ⟨e1, e2⟩ := HR.out.done HF.out HS.out t1 (by simp)
      exact ⟨ao, capo, by rw [e1]; rfl, e2⟩
    | cons x rest =>
      have hlen : 0 < l.length := by rw [hG.perm.length_eq]; simp
      have hx := first_of hG.ord hG.perm hG.sorted
      have hT := Top_any l a cap H B wr hG.heap hlen (by have := hG.perm.length_eq; simp at this hml; omega)
      rw [hx] at hT
      have d3 : wr.cell? ⟨S, 3, none⟩ = some (.int .i64 (rest.length + 1)) := by rw [d3]; simp
      have HT := Lib.hid hT
      have HR := Lib.hid R
      have hS1 := hG.s
      have HS1 := Lib.hid hS1
      obtain ⟨xt, xi, xs⟩ := x
      have hrl : (rest.length : Int) + 1 ≤ 60 := by simp at hml; omega
      clear hG R hx hT hS1
      unfold evV at HT
      simp only at HT
      go_wp2_with fail
      refine HT.out.mono ?_
      rintro e w2 ⟨rfl, o2⟩
      have R2 := HR.out.still o2
      rcases Int.lt_or_le T xt with hlt | hle
      · have hS2 := (o2.block S (lt_of_block HS1.out) (fun c => c)).trans HS1.out
        have d1 : w2.cell? ⟨S, 1, none⟩ = some (.int .i64 now') := by simp only [World.cell?, hS2]; rfl
        have g1 : w2.frozen? ⟨S, 1, none⟩ = false := by simp only [World.frozen?, hS2]; rfl
        have HR2 := Lib.hid R2
        clear hS2 R2 o2 d0 d3
        go_wp2
        go_ret2
        obtain ⟨e1, e2⟩ := HR2.out.done HF.out HS.out t1 (fun x r e => by
          simp only [List.cons.injEq] at e
          rw [← e.1]; exact hlt)
        exact ⟨ao, capo, by rw [e1]; rfl, e2⟩
      · have HR2 := Lib.hid R2
        clear R2 o2 d0 d3
        go_wp2_with fail
        refine (Next_some S B F ⟨xt, xi, xs⟩ rest now' seq w2 HR2.out.sim).mono ?_
        rintro e w3 ⟨rfl, hs3, o3⟩
        have HS3 := Lib.hid hs3
        have HO3 := Lib.hid o3
        clear hs3 o3
        simp only
        go_upto_region 8 with fail
        have o4 := Only.alloc w3 (.cells #[.int .i64 xt, .int .i64 xi] 28) (fun _ => False)
        have hb4 := heap_alloc_new w3 (.cells #[.int .i64 xt, .int .i64 xi] 28)
        generalize w3.alloc (.cells #[.int .i64 xt, .int .i64 xi] 28) = w4 at o4 hb4 ⊢
        generalize w3.heap.size = b4 at *
        have y0 : w4.cell? ⟨b4, 0, none⟩ = some (.int .i64 xt) := by simp only [World.cell?, hb4]; rfl
        have y1 : w4.cell? ⟨b4, 1, none⟩ = some (.int .i64 xi) := by simp only [World.cell?, hb4]; rfl
        have hF4 : ∀ k, F k → k < w.heap.size := HF.out
        have hown : EtOwn w4 w.heap.size ao capo pre := ((HR2.out.own.only HO3.out hF4).only o4 (fun _ c => c.elim))
        have hsz : w.heap.size ≤ w4.heap.size := by have := HR2.out.only.size; have := HO3.out.size; have := o4.size; omega
        have post : Hid (∀ v w6, w6.ownsRow w.heap.size 28 2 v (pre.length + 1) (flat2 pre ++ [.int .i64 xt, .int .i64 xi]) → (w4.alloc (.cells #[.int .i64 xt, .int .i64 xi] 28)).grownBy w6 (Value.slice ao pre.length capo).ownBlock →
            ∃ a3 c3, v = .slice a3 (pre.length + 1) c3 ∧ UntW w B S F q seq T (pre ++ [⟨xt, xi, xs⟩]) rest a3 c3 xt w6) :=
          Lib.hid fun v w6 own6 gr6 => HR2.out.next HF.out hle HS3.out HO3.out _ (o4.trans (Only.alloc w4 _ (fun _ => False)) (fun _ _ c => c)) own6 gr6
        have HOwn := Lib.hid hown
        have hpl2 : pre.length ≤ 60 := by omega
        clear hb4 o4 hown hF4
        go_wp2_with (at_builtin; refine wpList_append_own _ rfl _ _ 25 rfl w.heap.size 28 i0 (.agg #[.int .i64 0, .int .i64 0]) 2 16 Tryd.underlying25 hi hz0 hz1 hz2 rfl (by decide) (.slice ao pre.length capo) pre.length (flat2 pre) rfl (World.ownsRow.alloc HOwn.out _) ⟨_, 0, none⟩ 1 1 [.int .i64 xt, .int .i64 xi] rfl rfl (et_cells_new _ _ _ _ _ (by simp)) (by simp [Value.oneCell']) (by unfold maxLen; omega) (by omega) (by simp; omega) ?_; intro v2 w6 own6 gr6 _; obtain ⟨a3, c3, rfl, hR3⟩ := post.out v2 w6 own6 gr6; have HR3 := Lib.hid hR3; clear hR3 own6 gr6)
        go_roundw
        case rel => exact ⟨pre ++ [⟨xt, xi, xs⟩], rest, a3, c3, xt, by simp, HR3.out⟩
        case measure => simp only [slLen]; simp at hpl; omega
end Go.Proofs.YtominbodniikpaaDoor
