/- WALKS: sim.Next, core.Heap[sim.planned].Top. -/
import Derived.Test.YtdalffmmkhcdaaaSimPlan
import Derived.Test.YtdalffmmkhcdaaaEvPop
import Derived.Laws.ResultCell
set_option linter.unusedVariables false
set_option linter.unusedSimpArgs false
namespace Go.Proofs.Ytdalffmmkhcdaaa
open Go Go.RowKit SimPlain HeapPlain

theorem results_cellrow_tmp {P : Program} {fn : Func} {p u : Tmp} {ty : TypeId} (h : fn.results = #[.cell p ty, .tmp u]) (tmps : Array Value) (w : World) (g : Nat) (t : TypeId) (cs : Array Value) (fr : Nat × Nat) (d : TypeDesc)
    (hp : tmps.getD p undef = .pointer (some ⟨g, 0, none⟩)) (hg : w.heap[g]? = some (.cells cs t fr))
    (hu : P.underlying ty = some d) (hd : (match d with | .struct _ | .array _ _ => true | _ => false) = true) (hi : (P.info? ty).map (·.size) = some cs.size) :
    (results fn tmps).run P w = .ok (.tuple #[.agg cs, tmps.getD u undef]) w := by
  rw [results_cell_tmp h, hp]
  simp [asAddr, run_loadVar_row w g t ty cs fr d hg hu hd hi]

theorem own_len (a : Option Addr) (cap n m : Nat) : (Value.slice a n cap).ownBlock = (Value.slice a m cap).ownBlock := by cases a <;> rfl
theorem Touch.len {H cap n m k : Nat} {a : Option Addr} (h : Touch H a cap n k) : Touch H a cap m k := h.imp_right fun c => (own_len a cap m n).trans c
/-- what Next tells -/
def NextRes (w : World) (B S : Nat) (F : Nat → Prop) (x : Ev) (q : List Ev) (seq : Int) (e : Ending) (w' : World) : Prop :=
  e = .returned (.tuple #[.agg #[.int .i64 x.t, .int .i64 x.id], .nilIface]) ∧ SimQ w' B S F q x.t seq ∧ Only w w' F
theorem next_post {w w0 w2 W : World} {B S : Nat} {F : Nat → Prop} {H : Nat} {a : Option Addr} {cap : Nat} {l l' : List Ev} {x : Ev} {q : List Ev} {now seq : Int} (h : SimG w B S F H a cap l (x :: q) now seq)
    (o0 : Only w w0 (fun _ => False)) (hp : (x :: l').Perm l) (ho : Heap e0 Lt l') (hE : HeapE w2 B H a cap l') (oP : Only w0 w2 (Touch H a cap l.length)) (oW : Only w2 W (fun k => k = S ∨ w.heap.size ≤ k))
    (hS : W.heap[S]? = some (.cells #[.pointer (some ⟨H, 0, none⟩), .int .i64 x.t, .int .i64 seq, .int .i64 q.length] 57 (0, 0))) : SimQ W B S F q x.t seq ∧ Only w W F := by
  have hs0 := o0.size
  have hs2 := oP.size
  have hs3 := oW.size
  have hfit : ∀ k, Touch H a cap l.length k → ¬ (k = S ∨ w.heap.size ≤ k) := fun k hk c => by
    rcases c with c | c
    · subst c
      rcases hk with hk | hk
      · exact h.sH hk
      · exact h.sa _ hk rfl
    · have := (h.fb k (h.foot k hk)).2; omega
  have hlt : ∀ e ∈ q, ¬ Lt e x := fun e he c => Lt.irrefl _ (((List.pairwise_cons.1 h.sorted).1 e he).trans c)
  refine ⟨⟨H, a, cap, l', hE.only (oW.mono fun k _ c c' => hfit k c'.len c), ho, rest_of h.perm hp, hS, h.sH, fun k c => h.sa k ((own_len a cap _ _).trans c), fun k c => h.foot k c.len, h.fs, fun k hk => ?_, (h.fine.next hlt).1, (List.pairwise_cons.1 h.sorted).2⟩, ?_⟩
  · have := h.fb k hk; omega
  · refine ((o0.mono (own' := F) fun _ _ c => c.elim).trans oP (fun k _ c => h.foot k c)).trans oW (fun k hk c => ?_)
    rcases c with c | c
    · rw [c]; exact h.fs
    · omega
set_option maxRecDepth 100000 in
set_option maxHeartbeats 2000000 in
theorem Next_none (S B : Nat) (F : Nat → Prop) (now seq : Int) (w : World) (h : SimQ w B S F [] now seq) :
    Calls Try.prog 10 #[.pointer (some ⟨S, 0, none⟩)] w fun e w' => e = .returned (.tuple #[.agg #[.int .i64 0, .int .i64 0], .iface 59 (.int .i64 5)]) ∧ Only w w' (fun _ => False) := by
  obtain ⟨H, a, cap, l, hG⟩ := h
  have c3 := hG.c3
  have hSl := hG.lt
  have n1 : ¬ S = w.heap.size := by omega
  have hb := heap_alloc_new w (.cells #[.int .i64 0, .int .i64 0] 37)
  have o1 := Only.alloc w (.cells #[.int .i64 0, .int .i64 0] 37) (fun _ => False)
  have c3 : w.cell? ⟨S, 3, none⟩ = some (.int .i64 0) := c3
  clear hG
  go_enter Try.func10, Try.ntmps10
  go_upto_region 1 with fail
  generalize w.alloc (.cells #[.int .i64 0, .int .i64 0] 37) = w1 at hb o1 ⊢
  have c3 := (World.cell?_of_block (a := ⟨S, 3, none⟩) (o1.block S hSl (fun c => c))).trans c3
  generalize hbr : w.heap.size = br at *
  have r0 : w1.cell? ⟨br, 0, none⟩ = some (.int .i64 0) := by simp only [World.cell?, hb]; rfl
  have r1 : w1.cell? ⟨br, 1, none⟩ = some (.int .i64 0) := by simp only [World.cell?, hb]; rfl
  have s0 : w1.frozen? ⟨br, 0, none⟩ = false := by simp only [World.frozen?, hb]; rfl
  have s1 : w1.frozen? ⟨br, 1, none⟩ = false := by simp only [World.frozen?, hb]; rfl
  have Hb := Lib.hid hb
  have O1 := Lib.hid o1
  have Hbr := Lib.hid hbr
  clear hb o1 hbr
  go_wp2
  (try simp only [Exit.inBlock, Exit.then])
  refine bodyPost_ret (results_cellrow_tmp rfl _ _ br _ _ _ _ rfl (heap_setCell_same _ _ _ _ _ _ (heap_setCell_same _ _ _ _ _ _ Hb.out)) Try.underlying37 rfl (by kernel_rfl)) rfl ?_
  refine ⟨rfl, ?_⟩
  exact (O1.out.trans (Only.setCell _ ⟨br, 0, none⟩ _ (fun k => k = br) rfl) (fun j hj e => by have := Hbr.out; omega)).trans (Only.setCell _ ⟨br, 1, none⟩ _ (fun k => k = br) rfl) (fun j hj e => by have := Hbr.out; omega)
set_option maxRecDepth 100000 in
set_option maxHeartbeats 2000000 in
theorem Next_some (S B : Nat) (F : Nat → Prop) (x : Ev) (q : List Ev) (now seq : Int) (w : World) (h : SimQ w B S F (x :: q) now seq) :
    Calls Try.prog 10 #[.pointer (some ⟨S, 0, none⟩)] w fun e w' => NextRes w B S F x q seq e w' := by
  obtain ⟨H, a, cap, l, hG⟩ := h
  have c0 := hG.c0
  have c3 := hG.c3
  have hSl := hG.lt
  have hm := hG.fine.many
  have n1 : ¬ S = w.heap.size := by omega
  have hb := heap_alloc_new w (.cells #[.int .i64 0, .int .i64 0] 37)
  have o1 := Only.alloc w (.cells #[.int .i64 0, .int .i64 0] 37) (fun _ => False)
  have c3 : w.cell? ⟨S, 3, none⟩ = some (.int .i64 (q.length + 1)) := by rw [c3]; simp
  have hql : (q.length : Int) + 1 ≤ 60 := by simp at hm; omega
  have hne : (((q.length : Int) + 1) == 0) = false := by rw [beq_eq_false_iff_ne]; omega
  have hlen : 0 < l.length := by rw [hG.perm.length_eq]; simp
  have hx := first_of hG.ord hG.perm hG.sorted
  have HG := Lib.hid hG
  have Hx := Lib.hid hx
  clear hG hx
  go_enter Try.func10, Try.ntmps10
  go_upto_region 1 with fail
  generalize w.alloc (.cells #[.int .i64 0, .int .i64 0] 37) = w1 at hb o1 ⊢
  have c0 := (World.cell?_of_block (a := ⟨S, 0, none⟩) (o1.block S hSl (fun c => c))).trans c0
  have c3 := (World.cell?_of_block (a := ⟨S, 3, none⟩) (o1.block S hSl (fun c => c))).trans c3
  have HE1 := Lib.hid (HG.out.heap.only (o1.mono (fun _ _ c => c.elim)))
  have hS1 := (o1.block S hSl (fun c => c)).trans HG.out.s
  generalize hbr : w.heap.size = br at *
  have Hb := Lib.hid hb
  have O1 := Lib.hid o1
  have Hbr := Lib.hid hbr
  have HS1 := Lib.hid hS1
  clear hb o1 hbr hS1
  go_wp2_with fail
  refine (Pop_any l a cap H B w1 HE1.out HG.out.ord (by have := HG.out.perm.length_eq; simp at this; omega) hlen).mono ?_
  rintro e w2 ⟨rfl, l', hp, ho, hE2, oP⟩
  rw [Hx.out] at hp ⊢
  have hSb : ¬ Touch H a cap l.length S := fun hk => by
    rcases hk with hk | hk
    · exact HG.out.sH hk
    · exact HG.out.sa _ hk rfl
  have hbrT : ¬ Touch H a cap l.length br := fun hk => by
    have := (HG.out.fb br (HG.out.foot br hk)).2
    have := Hbr.out; omega
  have hlt1 : S < w1.heap.size := lt_of_block HS1.out
  have hlt2 : br < w1.heap.size := lt_of_block Hb.out
  have hS2 := (oP.block S hlt1 hSb).trans HS1.out
  have hb2 := (oP.block br hlt2 hbrT).trans Hb.out
  have hsz2 := oP.size
  have m1 : ¬ S = w2.heap.size := by omega
  have m2 : ¬ br = w2.heap.size := by omega
  have m3 : ¬ br = S := fun e => n1 e.symm
  have Hp := Lib.hid hp
  have Ho := Lib.hid ho
  have HE2 := Lib.hid hE2
  have OP := Lib.hid oP
  have HS2 := Lib.hid hS2
  have HB2 := Lib.hid hb2
  clear hp ho hE2 oP c0 c3
  unfold evV
  obtain ⟨xt, xi, xs⟩ := x
  simp only
  go_upto_region 4 with fail
  have o3 := Only.alloc w2 (.cells #[.int .i64 xt, .int .i64 xi, .int .i64 xs] 54) (fun _ => False)
  have hbx := heap_alloc_new w2 (.cells #[.int .i64 xt, .int .i64 xi, .int .i64 xs] 54)
  have hs3 : (w2.alloc (.cells #[.int .i64 xt, .int .i64 xi, .int .i64 xs] 54)).heap.size = w2.heap.size + 1 := by simp
  generalize w2.alloc (.cells #[.int .i64 xt, .int .i64 xi, .int .i64 xs] 54) = w3 at o3 hbx hs3 ⊢
  have hS3 := (o3.block S (lt_of_block hS2) (fun c => c)).trans hS2
  have hb3 := (o3.block br (lt_of_block hb2) (fun c => c)).trans hb2
  generalize w2.heap.size = bx at *
  have d3 : w3.cell? ⟨S, 3, none⟩ = some (.int .i64 (q.length + 1)) := by simp only [World.cell?, hS3]; simp
  have g1 : w3.frozen? ⟨S, 1, none⟩ = false := by simp only [World.frozen?, hS3]; rfl
  have g3 : w3.frozen? ⟨S, 3, none⟩ = false := by simp only [World.frozen?, hS3]; rfl
  have d1 : w3.cell? ⟨S, 1, none⟩ = some (.int .i64 now) := by simp only [World.cell?, hS3]; rfl
  have r0 : w3.cell? ⟨br, 0, none⟩ = some (.int .i64 0) := by simp only [World.cell?, hb3]; rfl
  have r1 : w3.cell? ⟨br, 1, none⟩ = some (.int .i64 0) := by simp only [World.cell?, hb3]; rfl
  have s0 : w3.frozen? ⟨br, 0, none⟩ = false := by simp only [World.frozen?, hb3]; rfl
  have s1 : w3.frozen? ⟨br, 1, none⟩ = false := by simp only [World.frozen?, hb3]; rfl
  have y0 : w3.cell? ⟨bx, 0, none⟩ = some (.int .i64 xt) := by simp only [World.cell?, hbx]; rfl
  have y1 : w3.cell? ⟨bx, 1, none⟩ = some (.int .i64 xi) := by simp only [World.cell?, hbx]; rfl
  have m4 : ¬ bx = S := fun e => m1 e.symm
  have m5 : ¬ bx = br := fun e => m2 e.symm
  have m6 : ¬ S = br := n1
  have O3 := Lib.hid o3
  have HS3 := Lib.hid hS3
  have HB3 := Lib.hid hb3
  have Hs3 := Lib.hid hs3
  clear hS2 hb2 hbx hS3 hb3 o3 hs3
  go_wp2
  (try simp only [Exit.inBlock, Exit.then])
  have oW : Only w3 ((((w3.setCell ⟨S, 3, none⟩ (.int .i64 q.length)).setCell ⟨S, 1, none⟩ (.int .i64 xt)).setCell ⟨br, 0, none⟩ (.int .i64 xt)).setCell ⟨br, 1, none⟩ (.int .i64 xi)) (fun k => k = S ∨ k = br) :=
    (((Only.setCell w3 ⟨S, 3, none⟩ _ (fun k => k = S ∨ k = br) (.inl rfl)).trans (Only.setCell _ ⟨S, 1, none⟩ _ (fun k => k = S ∨ k = br) (.inl rfl)) (fun _ _ c => c)).trans (Only.setCell _ ⟨br, 0, none⟩ _ (fun k => k = S ∨ k = br) (.inr rfl)) (fun _ _ c => c)).trans (Only.setCell _ ⟨br, 1, none⟩ _ (fun k => k = S ∨ k = br) (.inr rfl)) (fun _ _ c => c)
  refine bodyPost_ret (results_cellrow_tmp rfl _ _ br _ _ _ _ rfl (heap_setCell_same _ _ _ _ _ _ (heap_setCell_same _ _ _ _ _ _ ((heap_setCell_other _ _ _ _ m3).trans ((heap_setCell_other _ _ _ _ m3).trans HB3.out)))) Try.underlying37 rfl (by kernel_rfl)) rfl ?_
  refine ⟨rfl, ?_⟩
  refine next_post HG.out O1.out Hp.out Ho.out HE2.out OP.out (O3.out.mono (own' := fun k => k = S ∨ w.heap.size ≤ k) (fun _ _ c => c.elim) |>.trans oW (fun k _ c => c.imp_right (fun e => by have := Hbr.out; omega))) ?_
  rw [heap_setCell_other _ _ _ _ m6, heap_setCell_other _ _ _ _ m6]
  exact heap_setCell_same _ _ _ _ _ _ (heap_setCell_same _ _ _ _ _ _ HS3.out)
end Go.Proofs.Ytdalffmmkhcdaaa
