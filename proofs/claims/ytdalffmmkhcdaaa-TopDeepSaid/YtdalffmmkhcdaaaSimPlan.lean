/- WALKS: sim.Plan. -/
import Derived.Test.YtdalffmmkhcdaaaSimState
set_option linter.unusedVariables false
set_option linter.unusedSimpArgs false
namespace Go.Proofs.Ytdalffmmkhcdaaa
open Go Go.RowKit SimPlain HeapPlain

def planC (q : List Ev) (now t id : Int) : Int := if t < 0 ∨ 1000000 < t ∨ id < 0 ∨ 1000000 < id then 1 else if t < now then 8 else if q.length = 60 then 4 else 0
theorem planC_ok {q : List Ev} {now t id : Int} (h : planC q now t id = 0) : 0 ≤ t ∧ t ≤ 1000000 ∧ 0 ≤ id ∧ id ≤ 1000000 ∧ now ≤ t ∧ q.length ≠ 60 := by
  unfold planC at h
  split at h
  · omega
  · split at h
    · omega
    · split at h
      · omega
      · omega
/-- how many, and the number of the next, laid into a sim's own block -/
theorem SimG.stores {w : World} {B S : Nat} {F : Nat → Prop} {H : Nat} {a : Option Addr} {cap : Nat} {l q : List Ev} {now seq : Int} (h : SimG w B S F H a cap l q now seq) (u v : Value) :
    HeapE ((w.setCell ⟨S, 3, none⟩ u).setCell ⟨S, 2, none⟩ v) B H a cap l ∧ ((w.setCell ⟨S, 3, none⟩ u).setCell ⟨S, 2, none⟩ v).heap[S]? = some (.cells #[.pointer (some ⟨H, 0, none⟩), .int .i64 now, v, u] 57 (0, 0)) ∧ Only w ((w.setCell ⟨S, 3, none⟩ u).setCell ⟨S, 2, none⟩ v) (fun k => k = S) := by
  have o : Only w ((w.setCell ⟨S, 3, none⟩ u).setCell ⟨S, 2, none⟩ v) (fun k => k = S) := (Only.setCell w ⟨S, 3, none⟩ u (fun k => k = S) rfl).trans (Only.setCell _ ⟨S, 2, none⟩ v (fun k => k = S) rfl) (fun _ _ c => c)
  refine ⟨h.heap.only (o.mono fun k hk0 c hk => ?_), ?_, o⟩
  · subst c
    rcases hk with hk | hk
    · exact h.sH hk
    · exact h.sa _ hk rfl
  · exact heap_setCell_same _ _ _ _ _ _ (heap_setCell_same _ _ _ _ _ _ h.s)

set_option maxRecDepth 100000 in
set_option maxHeartbeats 2000000 in
theorem Plan_no (S B : Nat) (F : Nat → Prop) (q : List Ev) (now seq t id : Int) (w : World) (h : SimQ w B S F q now seq) (hc : planC q now t id ≠ 0) :
    Calls Try.prog 8 #[.pointer (some ⟨S, 0, none⟩), .agg #[.int .i64 t, .int .i64 id]] w fun e w' => e = .returned (.iface 59 (.int .i64 (planC q now t id))) ∧ Only w w' (fun _ => False) := by
  have HO := Lib.hid (Only.alloc w (.cells #[.int .i64 t, .int .i64 id] 37) (fun _ => False))
  obtain ⟨H, a, cap, l, hG⟩ := h
  have hG1 := hG.only (Only.alloc w (.cells #[.int .i64 t, .int .i64 id] 37) (fun _ => False)) (fun _ _ c => c)
  have c1 := hG1.c1
  have c3 := hG1.c3
  have hm := hG.fine.many
  have hS := hG.lt
  have nS : ¬ S = w.heap.size := by omega
  have nS' : ¬ w.heap.size = S := by omega
  clear hG hG1
  by_cases h1 : t < 0 ∨ 1000000 < t
  · have e : planC q now t id = 1 := by unfold planC; rw [if_pos (by omega)]
    rw [e]
    have H1 := Lib.hid h1
    clear e hc h1
    go_enter Try.func8, Try.ntmps8
    go_wp2_with (go_at_call 17; refine (within_no t 0 1000000 H1.out _).mono ?_; rintro e w' ⟨rfl, rfl⟩)
    go_ret
    first | exact ⟨rfl, HO.out⟩ | exact ⟨rfl, HO.out.drewN _⟩
  have t0 : 0 ≤ t := by omega
  have t1 : t ≤ 1000000 := by omega
  clear h1
  by_cases h2 : id < 0 ∨ 1000000 < id
  · have e : planC q now t id = 1 := by unfold planC; rw [if_pos (by omega)]
    rw [e]
    have H2 := Lib.hid h2
    clear e hc h2
    go_enter Try.func8, Try.ntmps8
    go_wp2_with fail
    refine (within_yes t 0 1000000 t0 t1 _).mono ?_
    rintro e w' ⟨rfl, rfl⟩
    go_wp2_with fail
    refine (within_no id 0 1000000 H2.out _).mono ?_
    rintro e w' ⟨rfl, rfl⟩
    go_wp2
    go_ret
    first | exact ⟨rfl, HO.out⟩ | exact ⟨rfl, HO.out.drewN _⟩
  have i0 : 0 ≤ id := by omega
  have i1 : id ≤ 1000000 := by omega
  clear h2
  rcases Int.lt_or_le t now with h3 | h3
  · have e : planC q now t id = 8 := by unfold planC; rw [if_neg (by omega), if_pos h3]
    rw [e]
    clear e hc
    go_enter Try.func8, Try.ntmps8
    go_wp2_with fail
    refine (within_yes t 0 1000000 t0 t1 _).mono ?_
    rintro e w' ⟨rfl, rfl⟩
    go_wp2_with fail
    refine (within_yes id 0 1000000 i0 i1 _).mono ?_
    rintro e w' ⟨rfl, rfl⟩
    go_wp2
    go_quiet (fail)
    go_wp2
    go_ret
    first | exact ⟨rfl, HO.out⟩ | exact ⟨rfl, HO.out.drewN _⟩
  · have h4 : q.length = 60 := by
      refine Classical.byContradiction fun hne => hc ?_
      unfold planC
      rw [if_neg (by omega), if_neg (by omega), if_neg hne]
    have e : planC q now t id = 4 := by unfold planC; rw [if_neg (by omega), if_neg (by omega), if_pos h4]
    rw [e]
    have h5 : ((q.length : Int) == 60) = true := by rw [h4]; rfl
    clear e hc
    go_enter Try.func8, Try.ntmps8
    go_wp2_with fail
    refine (within_yes t 0 1000000 t0 t1 _).mono ?_
    rintro e w' ⟨rfl, rfl⟩
    go_wp2_with fail
    refine (within_yes id 0 1000000 i0 i1 _).mono ?_
    rintro e w' ⟨rfl, rfl⟩
    go_wp2
    go_quiet (fail)
    go_wp2
    go_ret
    first | exact ⟨rfl, HO.out⟩ | exact ⟨rfl, HO.out.drewN _⟩

def PlanRes (w : World) (B S : Nat) (F : Nat → Prop) (q : List Ev) (now seq t id : Int) (e : Ending) (w' : World) : Prop :=
  e = .returned .nilIface ∧ SimQ w' B S (Grow F w w') (ins ⟨t, id, seq + 1⟩ q) now (seq + 1) ∧ Only w w' F
theorem plan_post {w W w' : World} {B S : Nat} {F : Nat → Prop} {H : Nat} {a a' : Option Addr} {cap cap' : Nat} {l q l' : List Ev} {now seq t id : Int} (h : SimG w B S F H a cap l q now seq) (hB : B ≤ w.heap.size) (hc : planC q now t id = 0)
    (hS : W.heap[S]? = some (.cells #[.pointer (some ⟨H, 0, none⟩), .int .i64 now, .int .i64 (seq + 1), .int .i64 (q.length + 1)] 57 (0, 0))) (oW : Only w W (fun k => k = S))
    (hp : l'.Perm (⟨t, id, seq + 1⟩ :: l)) (ho : Heap e0 Lt l') (hE : HeapE w' B H a' cap' l') (oP : Only W w' (Touch H a cap l.length)) (hn : ∀ k, (Value.slice a' l'.length cap').ownBlock = some k → (Value.slice a l.length cap).ownBlock = some k ∨ W.heap.size ≤ k) :
    SimQ w' B S (Grow F w w') (ins ⟨t, id, seq + 1⟩ q) now (seq + 1) ∧ Only w w' F := by
  obtain ⟨t0, t1, i0, i1, h3, h4⟩ := planC_ok hc
  have hm := h.fine.many
  have hqp := ins_perm ⟨t, id, seq + 1⟩ q
  have hsz := oW.size
  have hsz2 := oP.size
  have hSl := h.lt
  have hql : ((ins ⟨t, id, seq + 1⟩ q).length : Int) = q.length + 1 := by rw [hqp.length_eq]; simp
  refine ⟨⟨H, a', cap', l', hE, ho, hp.trans ((h.perm.cons _).trans hqp.symm), ?_, h.sH, fun k hk => ?_, fun k hk => ?_, .inl h.fs, fun k hk => ?_, h.fine.ins h3 t1 i0 i1 (by omega), ins_sorted h.sorted fun x hx => ?_⟩, ?_⟩
  · rw [oP.block S (by omega) (fun c => ?_)]
    · rw [hql]; exact hS
    · rcases c with c | c
      · exact h.sH c
      · exact h.sa _ c rfl
  · rcases hn k hk with c | c
    · exact h.sa k c
    · omega
  · rcases hk with hk | hk
    · exact .inl (h.foot k (.inl hk))
    · rcases hn k hk with c | c
      · exact .inl (h.foot k (.inr c))
      · exact .inr ⟨by omega, (hE.row.lt k hk).2⟩
  · rcases hk with hk | hk
    · have := h.fb k hk; omega
    · omega
  · have := (h.fine.range x hx).2.2.2.2
    show x.s < seq + 1; omega
  · exact (oW.mono (own' := F) (fun k _ c => by rw [c]; exact h.fs)).trans oP (fun k _ c => h.foot k c)
set_option maxRecDepth 100000 in
set_option maxHeartbeats 2000000 in
theorem Plan_yes (S B : Nat) (F : Nat → Prop) (q : List Ev) (now seq t id : Int) (w : World) (hB : B ≤ w.heap.size) (h : SimQ w B S F q now seq) (hc : planC q now t id = 0) (hs : seq ≤ 1000000) :
    Calls Try.prog 8 #[.pointer (some ⟨S, 0, none⟩), .agg #[.int .i64 t, .int .i64 id]] w fun e w' => PlanRes w B S F q now seq t id e w' := by
  obtain ⟨H, a, cap, l, hG⟩ := h
  obtain ⟨t0, t1, i0, i1, h3, h4⟩ := planC_ok hc
  have hO1 := Only.alloc w (.cells #[.int .i64 t, .int .i64 id] 37) (fun _ => False)
  have hG1 := hG.only hO1 (fun _ _ c => c)
  have hm := hG.fine.many
  have hs0 := hG.fine.seq0
  have h60 : (q.length : Int) < 60 := by omega
  have h5 : ((q.length : Int) == 60) = false := by rw [beq_eq_false_iff_ne]; omega
  have hS := hG.lt
  have nS : ¬ S = w.heap.size := by omega
  have nS' : ¬ w.heap.size = S := by omega
  have b0 : (w.alloc (.cells #[.int .i64 t, .int .i64 id] 37)).cell? ⟨w.heap.size, 0, none⟩ = some (.int .i64 t) := by have e := heap_alloc_new w (.cells #[.int .i64 t, .int .i64 id] 37); simp only [World.cell?, e]; rfl
  have b1 : (w.alloc (.cells #[.int .i64 t, .int .i64 id] 37)).cell? ⟨w.heap.size, 1, none⟩ = some (.int .i64 id) := by have e := heap_alloc_new w (.cells #[.int .i64 t, .int .i64 id] 37); simp only [World.cell?, e]; rfl
  have hw1 : (w.alloc (.cells #[.int .i64 t, .int .i64 id] 37)).heap.size = w.heap.size + 1 := by simp
  go_enter Try.func8, Try.ntmps8
  go_upto_region 1 with fail
  generalize w.alloc (.cells #[.int .i64 t, .int .i64 id] 37) = w1 at hO1 hG1 b0 b1 hw1 ⊢
  have c0 := hG1.c0
  have c1 := hG1.c1
  have c2 := hG1.c2
  have c3 := hG1.c3
  have f2 := hG1.free 2
  have f3 := hG1.free 3
  have HO1 := Lib.hid hO1
  have HG := Lib.hid hG
  have HG1 := Lib.hid hG1
  have Hw1 := Lib.hid hw1
  have Hc := Lib.hid hc
  generalize hbe : w.heap.size = be at nS nS' b0 b1 ⊢
  have Hbe := Lib.hid hbe
  clear hO1 hG hG1 hw1 hbe hc
  go_wp2_with fail
  refine (within_yes t 0 1000000 t0 t1 _).mono ?_
  rintro e w' ⟨rfl, rfl⟩
  go_wp2_with fail
  refine (within_yes id 0 1000000 i0 i1 _).mono ?_
  rintro e w' ⟨rfl, rfl⟩
  go_wp2
  go_quiet (fail)
  have G2 : SimG (w1.drewN nq) B S F H a cap l q now seq := HG1.out.only ((Only.refl w1 (fun _ => False)).drewN nq) (fun _ _ c => c)
  obtain ⟨hE3, hS3, hO3⟩ := G2.stores (.int .i64 ((q.length : Int) + 1)) (.int .i64 (seq + 1))
  have hB1 : B ≤ (w1.drewN nq).heap.size := by have := Hw1.out; have := Hbe.out; show B ≤ w1.heap.size; omega
  have hbeS : be < (w1.drewN nq).heap.size := by have := Hw1.out; have := Hbe.out; show be < w1.heap.size; omega
  have x0 := World.cell?_of_block (a := ⟨be, 0, none⟩) (hO3.block be hbeS nS')
  have x1 := World.cell?_of_block (a := ⟨be, 1, none⟩) (hO3.block be hbeS nS')
  have x0 := x0.trans b0
  have x1 := x1.trans b1
  go_upto_region 9 with fail
  generalize hW : ((w1.drewN nq).setCell ⟨S, 3, none⟩ (.int .i64 ((q.length : Int) + 1))).setCell ⟨S, 2, none⟩ (.int .i64 (seq + 1)) = W at hE3 hS3 hO3 x0 x1 ⊢
  have d0 : W.cell? ⟨S, 0, none⟩ = some (.pointer (some ⟨H, 0, none⟩)) := by simp only [World.cell?, hS3]; rfl
  have d2 : W.cell? ⟨S, 2, none⟩ = some (.int .i64 (seq + 1)) := by simp only [World.cell?, hS3]; rfl
  have HE3 := Lib.hid hE3
  have HS3 := Lib.hid hS3
  have HO3 := Lib.hid hO3
  have HG2 := Lib.hid G2
  clear hE3 hS3 hO3 hW b0 b1 c0 c1 c2 c3 f2 f3 G2
  go_still_tail 10, (by kernel_rfl)
  change wpList _ _ _ _ _ W.drew
  go_wp2_with fail
  refine (Push_any l ⟨t, id, seq + 1⟩ a cap H B W.drew (HE3.out.drewN 1) (by have := HG.out.perm.length_eq; omega) (by have := HO3.out.size; show B ≤ W.heap.size; omega) HG.out.ord).mono ?_
  rintro e w' ⟨rfl, a', cap', l', hp, ho, hE, oP, hn⟩
  have hsz1 := HO3.out.size
  have hres := plan_post HG.out hB Hc.out HS3.out ((HO1.out.drewN nq |>.mono (fun _ _ c => c.elim)).trans HO3.out (fun _ _ c => c)) hp ho hE ((Only.refl W (Touch H a cap l.length)).drewN 1 |>.trans oP (fun _ _ c => c)) hn
  have HRes := Lib.hid hres
  clear hp ho hE oP hn hres
  go_wp2
  go_ret
  exact ⟨rfl, HRes.out.1, HRes.out.2⟩
end Go.Proofs.Ytdalffmmkhcdaaa
