/- WALKS: book.Pop. -/
import Derived.Test.YtfejlkgddnamoaaGreatDoorBkPushB
import Derived.Test.YtfejlkgddnamoaaGreatDoorBkPop
import Derived.Laws.ResultCell
set_option linter.unusedVariables false
set_option linter.unusedSimpArgs false
namespace Go.Proofs.YtfejlkgddnamoaaGreatDoor
open Go Go.RowKit SimPlain HeapPlain BookPlain

theorem results_cellrow_tmp {P : Program} {fn : Func} {p u : Tmp} {ty : TypeId} (h : fn.results = #[.cell p ty, .tmp u]) (tmps : Array Value) (w : World) (g : Nat) (t : TypeId) (cs : Array Value) (fr : Nat × Nat) (d : TypeDesc)
    (hp : tmps.getD p undef = .pointer (some ⟨g, 0, none⟩)) (hg : w.heap[g]? = some (.cells cs t fr))
    (hu : P.underlying ty = some d) (hd : (match d with | .struct _ | .array _ _ => true | _ => false) = true) (hi : (P.info? ty).map (·.size) = some cs.size) :
    (results fn tmps).run P w = .ok (.tuple #[.agg cs, tmps.getD u undef]) w := by
  rw [results_cell_tmp h, hp]
  simp [asAddr, run_loadVar_row w g t ty cs fr d hg hu hd hi]
theorem own_len (a : Option Addr) (cap n m : Nat) : (Value.slice a n cap).ownBlock = (Value.slice a m cap).ownBlock := by cases a <;> rfl
theorem Touch.len {H cap n m k : Nat} {a : Option Addr} (h : Touch H a cap n k) : Touch H a cap m k := h.imp_right fun c => (own_len a cap m n).trans c
set_option maxRecDepth 100000 in
set_option maxHeartbeats 2000000 in
theorem BPop_none (S B : Nat) (F : Nat → Prop) (seq : Int) (T : List UInt8) (w : World) (h : BookQ w B S F [] seq T) :
    Calls Tryz.prog 14 #[.pointer (some ⟨S, 0, none⟩)] w fun e w' => e = .returned (.tuple #[.agg #[.int .i64 0, .int .i64 0], .iface 56 (.int .i64 5)]) ∧ Below w.heap.size w w' := by
  obtain ⟨H, a, cap, l, p, v, hG⟩ := h
  have hb := heap_alloc_new w (.cells #[.int .i64 0, .int .i64 0] 30)
  have o1 := Only.alloc w (.cells #[.int .i64 0, .int .i64 0] 30) (fun _ => False)
  have HG := Lib.hid hG
  clear hG
  go_enter Tryz.func14, Tryz.ntmps14
  go_upto_region 1 with fail
  generalize w.alloc (.cells #[.int .i64 0, .int .i64 0] 30) = w1 at hb o1 ⊢
  have hG1 := HG.out.only o1 (fun _ _ c => c)
  have c0 := hG1.s.c0
  have hL := Lib.hid (Len_any l a cap H B w1 hG1.heap (by rw [hG1.len]; simp))
  rw [hG1.len] at hL
  generalize hbr : w.heap.size = br at *
  have r0 : w1.cell? ⟨br, 0, none⟩ = some (.int .i64 0) := by simp only [World.cell?, hb]; rfl
  have r1 : w1.cell? ⟨br, 1, none⟩ = some (.int .i64 0) := by simp only [World.cell?, hb]; rfl
  have s0 : w1.frozen? ⟨br, 0, none⟩ = false := by simp only [World.frozen?, hb]; rfl
  have s1 : w1.frozen? ⟨br, 1, none⟩ = false := by simp only [World.frozen?, hb]; rfl
  have Hb := Lib.hid hb
  have O1 := Lib.hid o1
  have Hbr := Lib.hid hbr
  clear hb o1 hbr hG1
  go_wp2_with fail
  refine hL.out.mono ?_
  rintro e w2 ⟨rfl, rfl⟩
  go_wp2
  (try simp only [Exit.inBlock, Exit.then])
  refine bodyPost_ret (results_cellrow_tmp rfl _ _ br _ _ _ _ rfl (heap_setCell_same _ _ _ _ _ _ (heap_setCell_same _ _ _ _ _ _ Hb.out)) Tryz.underlying30 rfl (by kernel_rfl)) rfl ?_
  refine ⟨rfl, ?_⟩
  have o := (O1.out.trans (Only.setCell _ ⟨br, 0, none⟩ (.int .i64 0) (fun k => k = br) rfl) (fun j hj e => by have := Hbr.out; omega)).trans (Only.setCell _ ⟨br, 1, none⟩ (.int .i64 0) (fun k => k = br) rfl) (fun j hj e => by have := Hbr.out; omega)
  exact o.below (Nat.le_refl _) (fun k c => c.elim)
/-- what a pop that goes through leaves -/
def PoppedRes (S B : Nat) (F : Nat → Prop) (x : Ev) (q : List Ev) (seq : Int) (T : List UInt8) (w : World) (e : Ending) (w' : World) : Prop :=
  e = .returned (.tuple #[.agg #[.int .i64 x.t, .int .i64 x.id], .nilIface]) ∧ BookQ w' B S (Grow F w w') q seq (T ++ lineB popB) ∧ Only w w' F
theorem popped_post {w w2 W : World} {B S : Nat} {F : Nat → Prop} {H : Nat} {a : Option Addr} {cap : Nat} {l l' : List Ev} {x : Ev} {q : List Ev} {seq : Int} {p v : Value} {T : List UInt8} (h : BookG w B S F H a cap l (x :: q) seq p v T)
    (hp : (x :: l').Perm l) (ho : Heap e0 Lt l') (hE : HeapE w2 B H a cap l') (oP : Only w w2 (Touch H a cap l.length)) (br : Nat) (hbr : ¬ F br) (oW : Only w2 W (fun k => k = br)) : BookQ W B S F q seq T ∧ Only w W (fun k => F k ∨ k = br) := by
  have hs2 := oP.size
  have hs3 := oW.size
  have hSb : ¬ Touch H a cap l.length S := fun c => (h.sep S c).1 rfl
  have o' : Only w W (fun k => Touch H a cap l.length k ∨ k = br) := (oP.mono (fun _ _ c => .inl c)).trans oW (fun _ _ c => .inr c)
  refine ⟨⟨H, a, cap, l', p, v, hE.only (oW.mono fun k _ c c' => hbr (by rw [← c]; exact h.foot k c'.len)), ho, rest_of h.perm hp, (List.pairwise_cons.1 h.sorted).2, fun e he => h.top e (List.mem_cons_of_mem _ he), ?_, h.pp, h.txt.same fun k hk => ?_, h.tn, fun k hk => h.sep k hk.len, fun k hk => h.foot k hk.len, h.fs, h.fv, fun k hk => ?_⟩, ?_⟩
  · refine (o'.block S h.s.lt (fun c => ?_)).trans h.s
    rcases c with c | c
    · exact hSb c
    · exact hbr (by rw [← c]; exact h.fs)
  · refine o'.block k (h.txt.lt k hk).2 (fun c => ?_)
    rcases c with c | c
    · exact (h.sep k c).2 hk
    · exact hbr (by rw [← c]; exact h.fv k hk)
  · have := h.fb k hk; omega
  · exact o'.mono (fun k _ c => c.imp_left (fun d => h.foot k d))
set_option maxRecDepth 100000 in
set_option maxHeartbeats 2000000 in
theorem BPop_some (S B : Nat) (F : Nat → Prop) (x : Ev) (q : List Ev) (seq : Int) (T : List UInt8) (w : World) (h : BookQ w B S F (x :: q) seq T) (hq : q.length < 60) (hB : B ≤ w.heap.size) (htab : Tab w) (hTl : T.length ≤ 200000000) :
    Calls Tryz.prog 14 #[.pointer (some ⟨S, 0, none⟩)] w fun e w' => PoppedRes S B F x q seq T w e w' := by
  obtain ⟨H, a, cap, l, p, v, hG⟩ := h
  have hb := heap_alloc_new w (.cells #[.int .i64 0, .int .i64 0] 30)
  have o1 := Only.alloc w (.cells #[.int .i64 0, .int .i64 0] 30) (fun _ => False)
  have HG := Lib.hid hG
  have Htab := Lib.hid htab
  have hqI : (((q.length : Int) + 1) == 0) = false := by rw [beq_eq_false_iff_ne]; omega
  clear hG htab
  go_enter Tryz.func14, Tryz.ntmps14
  go_upto_region 1 with fail
  generalize w.alloc (.cells #[.int .i64 0, .int .i64 0] 30) = w1 at hb o1 ⊢
  have hG1 := HG.out.only o1 (fun _ _ c => c)
  have c0 := hG1.s.c0
  have hL := Len_any l a cap H B w1 hG1.heap (by rw [hG1.len]; simp; omega)
  rw [hG1.len, show (((x :: q).length : Nat) : Int) = (q.length : Int) + 1 by simp] at hL
  have HL := Lib.hid hL
  have hW := write_any S B _ _ p v T ⟨#[112, 111, 112]⟩ w1 hG1.s hG1.pp hG1.txt (by omega) (by show 3 ≤ _; omega) (Nat.le_trans hB o1.size) (Htab.out.only o1 (fun c => c))
  have HW := Lib.hid hW
  have HG1 := Lib.hid hG1
  generalize hbr : w.heap.size = br at *
  have Hb := Lib.hid hb
  have O1 := Lib.hid o1
  have Hbr := Lib.hid hbr
  clear hb o1 hbr hG1 hL hW
  go_wp2_with fail
  refine HL.out.mono ?_
  rintro e w2 ⟨rfl, rfl⟩
  go_wp2_with fail
  refine HW.out.mono ?_
  rintro e w3 ⟨rfl, v', A, tx, oo, fr⟩
  have hFb : ¬ F br := fun c => by have := (HG.out.fb br c).2; have := Hbr.out; omega
  have hb3 : w3.heap[br]? = some (.cells #[.int .i64 0, .int .i64 0] 30 (0, 0)) := (oo.block br (lt_of_block Hb.out) (fun c => by
    rcases c with c | c
    · exact hFb (by rw [c]; exact HG.out.fs)
    · exact hFb (HG.out.fv br c))).trans Hb.out
  obtain ⟨hG3, oF⟩ := HG1.out.wrote (by have := O1.out.size; have := Hbr.out; omega) A tx oo fr (lineB_ne _)
  replace hG3 : BookG w3 B S (Grow F w1 w3) H a cap l (x :: q) seq (.pointer (some ⟨S, 2, none⟩)) v' (T ++ lineB popB) := hG3
  have hx := first_of hG3.ord hG3.perm hG3.sorted
  have hll := hG3.len
  have hlen : 0 < l.length := by rw [hll]; simp
  have hP := Pop_any l a cap H B w3 hG3.heap hG3.ord (by rw [hll]; simp; omega) hlen
  have c0 := hG3.s.c0
  have HP := Lib.hid hP
  have Hx := Lib.hid hx
  have HG3 := Lib.hid hG3
  have HB3 := Lib.hid hb3
  have HOF := Lib.hid oF
  have HFb := Lib.hid hFb
  clear hP hx hG3 hb3 oF A tx oo fr hll hFb
  go_wp2_with fail
  refine HP.out.mono ?_
  rintro e w4 ⟨rfl, l', hp, ho, hE, oP⟩
  rw [Hx.out] at hp ⊢
  have hg1 : ¬ Grow F w1 w3 br := fun c => by
    rcases c with c | c
    · exact HFb.out c
    · have := lt_of_block Hb.out; omega
  have hb4 := (oP.block br (lt_of_block HB3.out) (fun c => hg1 (HG3.out.foot br c))).trans HB3.out
  have hfl : ∀ (x0 x1 x2 : Value) (w : World), (Instr.field 47 (.agg #[x0, x1, x2]) 0).run Tryz.prog w = .ok (.agg #[x0, x1]) w := fun _ _ _ _ => by kernel_rfl
  have r0 : w4.cell? ⟨br, 0, none⟩ = some (.int .i64 0) := by simp only [World.cell?, hb4]; rfl
  have r1 : w4.cell? ⟨br, 1, none⟩ = some (.int .i64 0) := by simp only [World.cell?, hb4]; rfl
  have s0 : w4.frozen? ⟨br, 0, none⟩ = false := by simp only [World.frozen?, hb4]; rfl
  have s1 : w4.frozen? ⟨br, 1, none⟩ = false := by simp only [World.frozen?, hb4]; rfl
  have HB4 := Lib.hid hb4
  have Hpost := Lib.hid (fun W oW => popped_post HG3.out hp ho hE oP br hg1 (W := W) oW)
  clear hb4 hp ho hE oP hg1
  unfold evV
  obtain ⟨xt, xi, xs⟩ := x
  simp only
  go_wp2
  (try simp only [Exit.inBlock, Exit.then])
  have oW : Only w4 ((w4.setCell ⟨br, 0, none⟩ (.int .i64 xt)).setCell ⟨br, 1, none⟩ (.int .i64 xi)) (fun k => k = br) :=
    (Only.setCell w4 ⟨br, 0, none⟩ _ (fun k => k = br) rfl).trans (Only.setCell _ ⟨br, 1, none⟩ _ (fun k => k = br) rfl) (fun _ _ c => c)
  refine bodyPost_ret (results_cellrow_tmp rfl _ _ br _ _ _ _ rfl (heap_setCell_same _ _ _ _ _ _ (heap_setCell_same _ _ _ _ _ _ HB4.out)) Tryz.underlying30 rfl (by kernel_rfl)) rfl ?_
  obtain ⟨p1, p2⟩ := Hpost.out _ oW
  have hsz := O1.out.size
  have oo : Only w ((w4.setCell ⟨br, 0, none⟩ (.int .i64 xt)).setCell ⟨br, 1, none⟩ (.int .i64 xi)) F := by
    refine ((O1.out.mono (own' := F) (fun _ _ c => c.elim)).trans HOF.out (fun _ _ c => c)).trans p2 (fun k hk c => ?_)
    rcases c with c | c
    · exact c.resolve_right (fun d => by omega)
    · have := Hbr.out; omega
  refine ⟨rfl, ?_, oo⟩
  obtain ⟨H', a', cap', l2, p2', v2, g⟩ := p1
  refine ⟨H', a', cap', l2, p2', v2, ⟨g.heap, g.ord, g.perm, g.sorted, g.top, g.s, g.pp, g.txt, g.tn, g.sep, fun k hk => ?_, ?_, fun k hk => ?_, fun k hk => ?_⟩⟩
  · have h1 := g.foot k hk; have h2 := (g.fb k h1).2
    exact h1.imp_right (fun c => by omega)
  · have h1 := g.fs; have h2 := (g.fb S h1).2
    exact h1.imp_right (fun c => by omega)
  · have h1 := g.fv k hk; have h2 := (g.fb k h1).2
    exact h1.imp_right (fun c => by omega)
  · rcases hk with hk | hk
    · have := HG.out.fb k hk; have := oo.size; omega
    · have := Hbr.out; omega
end Go.Proofs.YtfejlkgddnamoaaGreatDoor
