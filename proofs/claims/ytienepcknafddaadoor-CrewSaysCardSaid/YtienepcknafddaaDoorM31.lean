/- WALK: crew.Sort in company: what a worker is lent. · WALK: crew.Sort in company: the loop that starts the workers, walked. · WALK: crew.Sort in company: what the workers have left; gather; the return. · WALK: crew.Sort in company, from its call to its return. · WALK: ricksteadsame.Items in company: two lists that are the same. -/
import Derived.Test.YtienepcknafddaaDoorM30
import Derived.Laws.StructEq
import Derived.Deep.DeepCutAuto
section
set_option linter.unusedVariables false
set_option linter.unusedSimpArgs false
set_option linter.unusedVariables false
set_option linter.unusedSimpArgs false
namespace Go.Proofs.YtienepcknafddaaDoor
open Go Go.RowKit Go.Conc Co Cr SimPlain HeapPlain SymPlain
open Go.ConcM

theorem stepLS {m : Bool} {b : Frame} {a : _root_.Go.Act} {k : List Item} {cs : List Frame} {w : World} : stepG Tryd.prog m (G (b.at a (.code LS :: k)) cs) w = .go (G (b.at a (.code (.region 9 rs9 false) :: .code (.seq (.cond (.tmp 23) .skip (.exit 0)) (.seq (.block 1 (.seq (.region 10 rs10 false) (.seq (.region 11 rs11 false) (.region 12 rs12 false)))) (.region 13 rs13 false))) :: k)) cs) w #[] := by
  rw [LS_eq]; exact stepG_seq
/-- the items of hand k -/
def loOf (l : List Ev) (h k : Nat) : Nat := k * l.length / h
def partOf (l : List Ev) (h k : Nat) : List Ev := (l.drop (loOf l h k)).take (loOf l h (k + 1) - loOf l h k)
theorem lo_mono (l : List Ev) (h : Nat) {i j : Nat} (hij : i ≤ j) : loOf l h i ≤ loOf l h j := Nat.div_le_div_right (Nat.mul_le_mul_right _ hij)
theorem lo_le (l : List Ev) {h k : Nat} (h1 : 1 ≤ h) (hk : k ≤ h) : loOf l h k ≤ l.length := by
  unfold loOf
  calc k * l.length / h ≤ h * l.length / h := Nat.div_le_div_right (Nat.mul_le_mul_right _ hk)
    _ = l.length := Nat.mul_div_cancel_left _ (by omega)
theorem lo_zero (l : List Ev) (h : Nat) : loOf l h 0 = 0 := by simp [loOf]
theorem lo_all (l : List Ev) {h : Nat} (h1 : 1 ≤ h) : loOf l h h = l.length := by unfold loOf; exact Nat.mul_div_cancel_left _ (by omega)
theorem part_len (l : List Ev) {h k : Nat} (h1 : 1 ≤ h) (hk : k < h) : (partOf l h k).length = loOf l h (k + 1) - loOf l h k := by
  have := lo_le l h1 (show k + 1 ≤ h by omega)
  simp only [partOf, List.length_take, List.length_drop]; omega
theorem part_sub (l : List Ev) (h k : Nat) : (partOf l h k).Sublist l := (List.take_sublist _ _).trans (List.drop_sublist _ _)
def jobsOf (C : Nat) (l : List Ev) (h k : Nat) : List Jb := (List.range k).map fun i => JW C i (partOf l h i)
theorem jobs_succ (C : Nat) (l : List Ev) (h k : Nat) : jobsOf C l h (k + 1) = jobsOf C l h k ++ [JW C k (partOf l h k)] := by simp [jobsOf, List.range_succ]
theorem jobs_len (C : Nat) (l : List Ev) (h k : Nat) : (jobsOf C l h k).length = k := by simp [jobsOf]
section
variable {Post : Value → World → Prop} {r r' : Rts} {w w' : World} {n0 : Nat} {W0 : Past} {A : Option Addr} {b off cap L H Q C Wg h k K B : Nat} {l : List Ev}
theorem evA_part {lo n : Nat} (hE : EvA w (some ⟨b, off, none⟩) l) (hlt : b < w.heap.size) : EvA w (some ⟨b, off + lo * 2, none⟩) ((l.drop lo).take n) := by
  by_cases hp : (l.drop lo).take n = []
  · exact .inl hp
  · rcases hE with e | ⟨b', o', e, h1, h2⟩
    · subst e; exact absurd (by simp) hp
    · simp only [Option.some.injEq, Addr.mk.injEq, and_true] at e
      obtain ⟨rfl, rfl⟩ := e
      refine .inr ⟨_, _, rfl, h1, fun i hi => ?_⟩
      simp only [List.length_take, List.length_drop] at hi
      have := h2 (lo + i) (by omega)
      have e2 : ((l.drop lo).take n).getD i e0 = l.getD (lo + i) e0 := by
        rw [List.getD_eq_getElem?_getD, List.getD_eq_getElem?_getD, List.getElem?_take_of_lt (by omega), List.getElem?_drop]
      rw [e2, show off + lo * 2 + i * 2 = off + (lo + i) * 2 by omega]
      exact this
/-- what is lent -/
def Xs (L K H Q B : Nat) : Loc → Prop := fun x => (∃ a, x = .cell a ∧ (a.block = L ∨ a.block = K ∨ a.block = H ∨ a.block = Q ∨ a.block = B)) ∨ ∃ y, x = .obj y ∧ (y = L ∨ y = K ∨ y = H ∨ y = Q ∨ y = B)
def Ds (C k : Nat) : Loc → Prop := fun x => ∃ s, x = .cell ⟨C, k, s⟩
theorem xs_rd (hL : RdB r L) (hK : RdB r K) (hH : RdB r H) (hQ : RdB r Q) (hB : RdB r B) : ∀ x, Xs L K H Q B x → r.rd x := fun x hx => by
  rcases hx with ⟨a, rfl, h⟩ | ⟨y, rfl, h⟩
  · rcases h with h | h | h | h | h
    · exact hL.2 a h
    · exact hK.2 a h
    · exact hH.2 a h
    · exact hQ.2 a h
    · exact hB.2 a h
  · rcases h with rfl | rfl | rfl | rfl | rfl
    · exact hL.1
    · exact hK.1
    · exact hH.1
    · exact hQ.1
    · exact hB.1
theorem wkR_lent : WkR (lend (Xs L K H Q B) (Ds C k)) L K H Q B C k :=
  ⟨fun a h => .inl (.inl ⟨a, rfl, h⟩), fun y h => .inl (.inr ⟨y, rfl, h⟩), fun s => .inr ⟨s, rfl⟩, fun s => ⟨s, rfl⟩⟩
theorem RdB.keepS {X : Loc → Prop} {b : Nat} (h : RdB r b) (hb : b ≠ C) : RdB (r.keepOf X (Ds C k)) b :=
  ⟨⟨h.1, (fun ⟨s, e⟩ => by cases e)⟩, fun a ha => ⟨h.2 a ha, (fun ⟨s, e⟩ => by cases e; exact hb ha.symm)⟩⟩
theorem CsF.next {X : Loc → Prop} (f : CsF n0 W0 r w A b off cap l L H Q C Wg h k) (hX : ∀ a : Addr, a.block = C → ¬ X (.cell a)) (hk : k < h) : CsF n0 W0 (r.keepOf X (Ds C k)) w A b off cap l L H Q C Wg h (k + 1) := by
  have hold : Hold n0 W0 (r.keepOf X (Ds C k)) w := f.cr.q.hold.split (fun a ⟨s, e⟩ => by cases e; exact f.nC) (fun x ⟨s, e⟩ => by cases e)
  exact { f with
    cr := { f.cr with q := { f.cr.q with hold := hold, rb := (fun e => ⟨(f.cr.q.rb e).1.keepS (f.nb e).symm, (f.cr.q.rb e).2⟩) }, rL := f.cr.rL.keepS f.nL.symm, rH := f.cr.rH.keepS f.nH.symm }
    rQ := f.rQ.keepS f.nQ.symm
    roC := ⟨f.roC, (fun ⟨s, e⟩ => by cases e)⟩
    rC := (fun a ha hka => ⟨⟨(f.rC a ha (by omega)).1, (fun ⟨s, e⟩ => by cases e; simp at hka; omega)⟩, ⟨(f.rC a ha (by omega)).2, hX a ha, (fun ⟨s, e⟩ => by cases e; simp at hka; omega)⟩⟩)
    wg := (fun o hw => f.wg o hw.1)
    km := hk }
/-- the block that a worker takes for its items -/
noncomputable def bOf (A : Option Addr) (b L : Nat) : Nat := if A = none then L else b
theorem CsF.worker (f : CsF n0 W0 r w A b off cap l L H Q C Wg h k) (hk : k < h) (hK : w.cell? ⟨K, 0, none⟩ = some (.int .i64 k)) (nK : C ≠ K) (gK : Tryd.prog.globals.size ≤ K) :
    WkN l.length cap k h (loOf l h k) (loOf l h (k + 1)) (partOf l h k) ∧ WkW w A (bOf A b L) off l.length cap k h C L K H Q (loOf l h k) (partOf l h k) := by
  obtain ⟨hl60, hok⟩ := chkI_fine f.ok
  have hsub := part_sub l h k
  refine ⟨⟨f.h1, hk, f.h6, hl60, rfl, rfl, lo_mono l h (by omega), lo_le l f.h1 (by omega), f.cr.q.hlc, part_len l f.h1 hk, chkI_of (Nat.le_trans hsub.length_le hl60) (fun e he => hok e (hsub.subset he)), List.Pairwise.sublist hsub f.bef⟩, ?_⟩
  rcases f.cr.q.hA with e | ⟨e, hl, hc⟩
  · have hbo : bOf A b L = b := by unfold bOf; rw [if_neg (by rw [e]; simp)]
    rw [hbo]
    have hb := f.cr.q.rb e
    have hE := f.cr.q.hE
    rw [e] at hE
    obtain ⟨x, t, fr, hbx⟩ := hb.2.1
    refine ⟨.inl e, f.cr.hL, hK, f.cr.hH, f.hQ, evA_part hE (Array.getElem?_eq_some_iff.1 hbx).1, hb.2.1, f.row k hk, f.nL, nK, f.nH, f.nQ, f.nb e, fun y hy => ?_⟩
    rcases hy with rfl | rfl | rfl | rfl | rfl | rfl
    · exact f.cr.gL
    · exact gK
    · exact f.cr.gH
    · exact f.gQ
    · exact hb.2.2
    · exact f.gC
  · have hbo : bOf A b L = L := by unfold bOf; rw [if_pos e]
    rw [hbo]
    have hp : partOf l h k = [] := by simp [partOf, hl]
    refine ⟨.inr ⟨e, by rw [hl]; rfl, hc⟩, f.cr.hL, hK, f.cr.hH, f.hQ, .inl hp, cell_block f.cr.hL, f.row k hk, f.nL, nK, f.nH, f.nQ, f.nL, fun y hy => ?_⟩
    rcases hy with rfl | rfl | rfl | rfl | rfl | rfl
    · exact f.cr.gL
    · exact gK
    · exact f.cr.gH
    · exact f.gQ
    · exact f.cr.gL
    · exact f.gC
theorem CsF.rB (f : CsF n0 W0 r w A b off cap l L H Q C Wg h k) : RdB r (bOf A b L) ∧ C ≠ bOf A b L := by
  rcases f.cr.q.hA with e | ⟨e, _⟩
  · have hbo : bOf A b L = b := by unfold bOf; rw [if_neg (by rw [e]; simp)]
    rw [hbo]; exact ⟨(f.cr.q.rb e).1, f.nb e⟩
  · have hbo : bOf A b L = L := by unfold bOf; rw [if_pos e]
    rw [hbo]; exact ⟨f.cr.rL, f.nL⟩
theorem live_alloc {o : Obj} (hl : Go.ConcN.WgLive wgL.tWg Wg w) : Go.ConcN.WgLive wgL.tWg Wg (w.alloc o) := by
  obtain ⟨a, c, e⟩ := hl
  have e' : w.heap[Wg]? = some _ := e
  exact ⟨a, c, (Below.heap_alloc w o Wg (Array.getElem?_eq_some_iff.1 e').1).trans e'⟩
theorem live_set {a : Addr} {v : Value} (hl : Go.ConcN.WgLive wgL.tWg Wg w) (ha : Wg ≠ a.block) : Go.ConcN.WgLive wgL.tWg Wg (w.setCell a v) := by
  obtain ⟨x, c, e⟩ := hl
  exact ⟨x, c, (Below.heap_setCell w a v Wg ha).trans e⟩
theorem live_lt' (hl : Go.ConcN.WgLive wgL.tWg Wg w) : Wg < w.heap.size := by
  obtain ⟨x, c, e⟩ := hl
  have e' : w.heap[Wg]? = some _ := e
  exact (Array.getElem?_eq_some_iff.1 e').1
end
end Go.Proofs.YtienepcknafddaaDoor
end

section
set_option linter.unusedVariables false
set_option linter.unusedSimpArgs false
set_option linter.unusedVariables false
set_option linter.unusedSimpArgs false
namespace Go.Proofs.YtienepcknafddaaDoor
open Go Go.RowKit Go.Conc Co Cr SimPlain HeapPlain SymPlain
open Go.ConcM
open Go.ConcN (WgLive)
open Go.Conc.Lib Go.ConcR.Gen Go.ConcN.Gen

section
variable {Post : Value → World → Prop} {n0 : Nat} {W0 : Past} {A : Option Addr} {b off cap L H Q C Wg h : Nat} {l : List Ev}
set_option maxRecDepth 100000 in
set_option maxHeartbeats 8000000 in
theorem sort_loop {K : List Item} {cs : List Frame}
    (cont : ∀ (t : Array Value) (r : Rts) (w : World), CsF n0 W0 r w A b off cap l L H Q C Wg h h → WgLive wgL.tWg Wg w → S31 t L H Q Wg → ME Tryd.prog wgL.tWg Post (.wg Wg (jobsOf C l h h) (.idle h)) 0 r (G ((base 6).at ⟨t, []⟩ K) cs) w) :
    ∀ (d k : Nat) (t : Array Value) (r : Rts) (w : World), d = h - k → CsF n0 W0 r w A b off cap l L H Q C Wg h k → WgLive wgL.tWg Wg w → S31 t L H Q Wg → t[21]? = some (.int .i64 h) → t[22]? = some (.int .i64 k) →
      ME Tryd.prog wgL.tWg Post (.wg Wg (jobsOf C l h k) (.idle k)) 0 r (G ((base 6).at ⟨t, []⟩ (.code LS :: .inLoop LS :: .inBlock 0 :: K)) cs) w := by
  intro d
  induction d with
  | zero =>
    intro k t r w hd F hl hS h21 h22
    obtain rfl : k = h := by have := F.km; omega
    obtain ⟨x0, x1, x2, x3, x4, x5, x6, x7, x8, x9, x10, x11, x12, x13, x14, x15, x16, x17, x18, x19, x20, x21, x22, x23, x24, x25, x26, x27, x28, x29, x30, rfl⟩ := arr31 hS.size
    obtain rfl : x2 = _ := by simpa using hS.t2
    obtain rfl : x3 = _ := by simpa using hS.t3
    obtain rfl : x7 = _ := by simpa using hS.t7
    obtain rfl : x8 = _ := by simpa using hS.t8
    obtain rfl : x21 = _ := by simpa using h21
    obtain rfl : x22 = _ := by simpa using h22
    clear hd hS h21 h22
    have hF : KW r (WgLive wgL.tWg Wg) w w := ⟨Rely.refl _ _, hl⟩
    refine me_ctl rfl (fun _ => stepLS) ?_
    simp only [rs9, qSL, qSd, Tryd.f6]
    have hlt : ¬ ((k : Int) < (k : Int)) := by omega
    refine me_run (m := 6) rfl hl ?_
    w_go kw_rely
    w_go kw_rely
    w_go kw_rely
    w_go kw_rely
    w_go kw_rely
    w_go kw_rely
    refine Goes.stop (fun w₁ h₁ => ?_)
    replace hF := kw_rely hF h₁
    clear h₁
    exact cont _ r _ (F.rely hF.1) hF.2 ⟨rfl, rfl, rfl, rfl, rfl⟩
  | succ d ih =>
    intro k t r w hd F hl hS h21 h22
    have hk : k < h := by omega
    have h6 := F.h6
    obtain ⟨x0, x1, x2, x3, x4, x5, x6, x7, x8, x9, x10, x11, x12, x13, x14, x15, x16, x17, x18, x19, x20, x21, x22, x23, x24, x25, x26, x27, x28, x29, x30, rfl⟩ := arr31 hS.size
    obtain rfl : x2 = _ := by simpa using hS.t2
    obtain rfl : x3 = _ := by simpa using hS.t3
    obtain rfl : x7 = _ := by simpa using hS.t7
    obtain rfl : x8 = _ := by simpa using hS.t8
    obtain rfl : x21 = _ := by simpa using h21
    obtain rfl : x22 = _ := by simpa using h22
    clear hS h21 h22
    have hF : KW r (WgLive wgL.tWg Wg) w w := ⟨Rely.refl _ _, hl⟩
    refine me_ctl rfl (fun _ => stepLS) ?_
    simp only [rs9, rs10, rs11, rs12, rs13, qS1, qSL, qSd, Tryd.f6]
    have hlt : ((k : Int) < (h : Int)) := by omega
    refine me_run (m := 13) rfl hl ?_
    repeat w_go kw_rely
    refine Goes.stop (fun w₁ h₁ => ?_)
    replace hF := kw_rely hF h₁
    replace F := F.rely hF.1
    replace hl := hF.2
    clear h₁ hF
    refine me_al (f := fun n => .pointer (some ⟨n, 0, none⟩)) rfl rfl (by decide) loud4 (al3 rfl) fun w2 h2 hi2 => ?_
    walk_nrm
    have hrow : Cr.Row (w2.alloc (.cells #[.int .i64 0] 3 (0, 0))) w2.heap.size 0 := ⟨_, _, _, alloc_here _ _, by simp, by simp⟩
    refine me_stv rfl rfl (by decide) loud4 (st3 (k := .i64) (n := (k : Int)) rfl rfl rfl) hrow (new_rd_cell rfl) (new_wr_cell rfl) fun w3 h3 hi3 => ?_
    walk_nrm
    have hi2' : WgLive wgL.tWg Wg w2 := hi2
    have hi3' : WgLive wgL.tWg Wg w3 := hi3
    have hWK : Wg ≠ w2.heap.size := by have := live_lt' hi2'; omega
    have hl4 : WgLive wgL.tWg Wg (w3.setCell ⟨w2.heap.size, 0, none⟩ (.int .i64 k)) := live_set hi3' hWK
    have hrl : Rely r w₁ (w3.setCell ⟨w2.heap.size, 0, none⟩ (.int .i64 k)) := rely_set ((rely_alloc h2 _).trans (rely_of_new h3)) h2.size _
    have hC : C ≠ w2.heap.size := fun e => by
      obtain ⟨x, t, fr, e1, _⟩ := F.row k hk
      have := (Array.getElem?_eq_some_iff.1 e1).1
      have := h2.size
      omega
    have F4 : CsF n0 W0 (r.new w2.heap.size (w2.heap.size + 1)) (w3.setCell ⟨w2.heap.size, 0, none⟩ (.int .i64 k)) A b off cap l L H Q C Wg h k := by
      have f := F.rely hrl
      exact { f with
        cr := f.cr.mono (Hold.new f.cr.q.hold _ _) (fun _ h => .inl h)
        rQ := f.rQ.mono fun _ => .inl
        roC := .inl f.roC
        rC := (fun a ha hka => ⟨.inl (f.rC a ha hka).1, .inl (f.rC a ha hka).2⟩)
        wg := (fun o hw => by
          rcases hw with hw | hw
          · exact f.wg o hw
          · exact hw.2.1 (live_lt' hi2')) }
    have hK : (w3.setCell ⟨w2.heap.size, 0, none⟩ (.int .i64 k)).cell? ⟨w2.heap.size, 0, none⟩ = some (.int .i64 k) := (hrow.rely h3).set _
    have hrK : RdB (r.new w2.heap.size (w2.heap.size + 1)) w2.heap.size := ⟨new_rd_obj, fun a ha => new_rd_cell ha⟩
    have hgK : Tryd.prog.globals.size ≤ w2.heap.size := Nat.le_trans F.cr.q.gw h2.size
    generalize w3.setCell ⟨w2.heap.size, 0, none⟩ (.int .i64 k) = w4 at F4 hK hl4
    generalize r.new w2.heap.size (w2.heap.size + 1) = r4 at F4 hrK
    generalize w2.heap.size = Kb at *
    clear h2 h3 hi2 hi3 hi2' hi3' hrow hrl F hl
    have hF : KW r4 (WgLive wgL.tWg Wg) w4 w4 := ⟨Rely.refl _ _, hl4⟩
    refine me_run (m := 3) rfl hl4 ?_
    w_go kw_rely
    w_go kw_rely
    w_go kw_rely
    refine Goes.stop (fun w₁ h₁ => ?_)
    replace hF := kw_rely hF h₁
    replace F4 := F4.rely hF.1
    replace hK := hF.1.cell hK (hrK.2 _ rfl)
    replace hl4 := hF.2
    clear h₁ hF
    refine me_callAdd wgLib rfl rfl (by decide) rfl rfl (by rw [jobs_len]; omega) F4.wg hl4 ?_
    walk_nrm
    have hF : KW r4 (WgLive wgL.tWg Wg) w₁ w₁ := ⟨Rely.refl _ _, hl4⟩
    refine me_run (m := 3) rfl hl4 ?_
    w_go kw_rely
    w_go kw_rely
    w_go kw_rely
    refine Goes.stop (fun w₁ h₁ => ?_)
    replace hF := kw_rely hF h₁
    replace F4 := F4.rely hF.1
    replace hK := hF.1.cell hK (hrK.2 _ rfl)
    replace hl4 := hF.2
    clear h₁ hF
    have hrB := F4.rB
    have hCrow := (F4.row k hk).cell
    refine ME.spawnW (J := JW C k (partOf l h k)) (r' := r4.keepOf (Xs L Kb H Q (bOf A b L)) (Ds C k)) (rc := lend (Xs L Kb H Q (bOf A b L)) (Ds C k)) rfl (by rw [jobs_len]; omega) (JW.st _ _ _)
      (split_lend F4.cr.q.hold.sub (xs_rd F4.cr.rL hrK F4.cr.rH F4.rQ hrB.1) (fun x ⟨s, e⟩ => by subst e; exact (F4.rC ⟨C, k, s⟩ rfl (Nat.le_refl _)).2) (fun _ h => h)) fun w1 h1 hl1 => ⟨_, _, stepG_go rfl rfl (by decide) rfl rfl w1, ?_, ?_⟩
    · obtain ⟨a1, a2⟩ := (F4.rely h1).worker hk (h1.cell hK (hrK.2 _ rfl)) hC hgK
      exact sort_worker a1 wkR_lent a2
    · have F5 := (F4.rely h1).next (X := Xs L Kb H Q (bOf A b L)) (fun a ha hx => by
        rcases hx with ⟨a', e, hh⟩ | ⟨y, e, _⟩
        · cases e
          rw [ha] at hh
          rcases hh with hh | hh | hh | hh | hh
          · exact F4.nL hh
          · exact hC hh
          · exact F4.nH hh
          · exact F4.nQ hh
          · exact hrB.2 hh
        · cases e) hk
      rw [jobs_len, ← jobs_succ]
      walk_nrm
      clear F4 hrB hCrow h1
      generalize r4.keepOf (Xs L Kb H Q (bOf A b L)) (Ds C k) = r5 at F5
      have hF : KW r5 (WgLive wgL.tWg Wg) w1 w1 := ⟨Rely.refl _ _, hl1⟩
      have hwr : IntKind.i64.wrap ((k : Int) + 1) = (k : Int) + 1 := by rw [IntKind.wrap_i64]; omega
      refine me_run (m := 8) rfl hl1 ?_
      repeat w_go kw_rely
      refine Goes.stop (fun w₁ h₁ => ?_)
      replace hF := kw_rely hF h₁
      exact ih (k + 1) _ r5 _ (by omega) (F5.rely hF.1) hF.2 ⟨rfl, rfl, rfl, rfl, rfl⟩ rfl (by simp)
end
end Go.Proofs.YtienepcknafddaaDoor
end

section
set_option linter.unusedVariables false
set_option linter.unusedSimpArgs false
set_option linter.unusedVariables false
set_option linter.unusedSimpArgs false
namespace Go.Proofs.YtienepcknafddaaDoor
open Go Go.RowKit Go.Conc Co Cr SimPlain HeapPlain SymPlain
open Go.ConcM
open Go.ConcN (WgLive)

theorem part_mem {l : List Ev} {h k : Nat} {x : Ev} (hx : x ∈ partOf l h k) : ∃ p, loOf l h k ≤ p ∧ p < loOf l h (k + 1) ∧ l[p]? = some x := by
  obtain ⟨i, hi⟩ := List.getElem?_of_mem hx
  have hlt := (List.getElem?_eq_some_iff.1 hi).1
  simp only [partOf, List.length_take, List.length_drop] at hlt
  rw [partOf, List.getElem?_take_of_lt (by omega), List.getElem?_drop] at hi
  exact ⟨_, by omega, by omega, hi⟩
theorem parts_apart {l : List Ev} {h i j : Nat} (hb : l.Pairwise Bef) (hij : i < j) {x y : Ev} (hx : x ∈ partOf l h i) (hy : y ∈ partOf l h j) : Bef x y := by
  obtain ⟨p, p1, p2, p3⟩ := part_mem hx
  obtain ⟨q, q1, q2, q3⟩ := part_mem hy
  have := lo_mono l h (show i + 1 ≤ j by omega)
  obtain ⟨hp, ep⟩ := List.getElem?_eq_some_iff.1 p3
  obtain ⟨hq, eq⟩ := List.getElem?_eq_some_iff.1 q3
  have h1 := List.pairwise_iff_getElem.1 hb p q hp hq (by omega)
  rw [ep, eq] at h1
  exact h1
theorem take_part (l : List Ev) {h : Nat} (h1 : 1 ≤ h) (k : Nat) : l.take (loOf l h k) ++ partOf l h k = l.take (loOf l h (k + 1)) := by
  have := lo_mono l h (Nat.le_add_right k 1)
  unfold partOf
  conv => rhs; rw [show loOf l h (k + 1) = loOf l h k + (loOf l h (k + 1) - loOf l h k) by omega, List.take_add]
theorem flat_perm {l : List Ev} {h : Nat} (h1 : 1 ≤ h) {Wf : Nat → List Ev} : ∀ k, (∀ i, i < k → (Wf i).Perm (partOf l h i)) → ((List.range k).map Wf).flatten.Perm (l.take (loOf l h k))
  | 0, _ => by rw [lo_zero]; simp
  | k + 1, hp => by
    rw [List.range_succ, List.map_append, List.flatten_append, ← take_part l h1 k]
    simp only [List.map_cons, List.map_nil, List.flatten_cons, List.flatten_nil, List.append_nil]
    exact (flat_perm h1 k fun i hi => hp i (by omega)).append (hp k (by omega))
theorem range_get {Wf : Nat → List Ev} {h i : Nat} {W : List Ev} (e : ((List.range h).map Wf)[i]? = some W) : i < h ∧ W = Wf i := by
  obtain ⟨hi, e1⟩ := List.getElem?_eq_some_iff.1 e
  simp at hi e1
  exact ⟨hi, e1.symm⟩
theorem pl_of {l : List Ev} {h : Nat} (h1 : 1 ≤ h) (hok : chkI l = 0) (hb : l.Pairwise Bef) (hBef : ∀ x y : Ev, Bef x y → x.s < y.s) {Wf : Nat → List Ev} (hp : ∀ i, i < h → (Wf i).Perm (partOf l h i)) (hs : ∀ i, i < h → (Wf i).Pairwise SimPlain.Lt) : Pl ((List.range h).map Wf) ∧ ((List.range h).map Wf).flatten.Perm l := by
  have hfl : ((List.range h).map Wf).flatten.Perm l := by
    have := flat_perm h1 h hp
    rwa [lo_all l h1, List.take_length] at this
  obtain ⟨hl60, hokE⟩ := chkI_fine hok
  refine ⟨⟨fun W hW => ?_, ?_, by rw [hfl.length_eq]; exact hl60, fun e he => hokE e (hfl.mem_iff.1 he)⟩, hfl⟩
  · obtain ⟨i, hi⟩ := List.getElem?_of_mem hW
    obtain ⟨a, rfl⟩ := range_get hi
    exact hs i a
  · unfold Parted
    rw [List.pairwise_iff_getElem]
    intro i j hi hj hij x hx y hy
    simp at hi hj hx hy
    exact hBef _ _ (parts_apart hb hij ((hp i hi).mem_iff.1 hx) ((hp j hj).mem_iff.1 hy))
section
variable {Post : Value → World → Prop} {r : Rts} {w : World} {n0 : Nat} {W0 : Past} {A : Option Addr} {b off cap L H Q C Wg h : Nat} {l : List Ev}
/-- what stands behind the wait -/
theorem CsF.joined {qs : List Rts} (F : CsF n0 W0 r w A b off cap l L H Q C Wg h h) (hq : AllJ (jobsOf C l h h) qs w) : ∃ Wf : Nat → List Ev, (∀ i, i < h → (Wf i).Perm (partOf l h i)) ∧ (∀ i, i < h → (Wf i).Pairwise SimPlain.Lt) ∧ (∀ i, i < h → PartAt (r.full qs) w C i (Wf i)) ∧ RdB (r.full qs) C := by
  obtain ⟨hlen, hall⟩ := hq
  rw [jobs_len] at hlen
  have one : ∀ i, i < h → ∃ q, qs[i]? = some q ∧ JW C i (partOf l h i) undef q w := fun i hi => by
    have e : qs[i]? = some (qs[i]'(by omega)) := List.getElem?_eq_getElem _
    exact ⟨_, e, hall i _ _ (by simp [jobsOf, hi]) e⟩
  have two : ∀ i, ∃ W, i < h → W.Perm (partOf l h i) ∧ W.Pairwise SimPlain.Lt ∧ PartAt (r.full qs) w C i W := fun i => by
    by_cases hi : i < h
    · obtain ⟨q, e, g, c, W, hs, hc, h3, h4, h5⟩ := one i hi
      have hm : q ∈ qs := List.mem_of_getElem? e
      exact ⟨W, fun _ => ⟨hs.perm, hs.lt, g, c, hc, hs.pb, fun hW b' e' => ⟨.inr ⟨q, hm, (h4 hW b' e').1⟩, fun a ha => .inr ⟨q, hm, (h4 hW b' e').2 a ha⟩⟩, h5⟩⟩
    · exact ⟨[], fun c => absurd c hi⟩
  refine ⟨fun i => (two i).choose, fun i hi => ((two i).choose_spec hi).1, fun i hi => ((two i).choose_spec hi).2.1, fun i hi => ((two i).choose_spec hi).2.2, .inl F.roC, fun a ha => ?_⟩
  by_cases hi : a.off < h
  · obtain ⟨q, e, g, c, W, hs, hc, h3, h4, h5⟩ := one a.off hi
    refine .inr ⟨q, List.mem_of_getElem? e, ?_⟩
    obtain ⟨ab, ao, sp⟩ := a
    simp only at ha
    subst ha
    exact h3 sp
  · exact .inl (F.rC a ha (by omega)).1
end
end Go.Proofs.YtienepcknafddaaDoor
end

section
set_option linter.unusedVariables false
set_option linter.unusedSimpArgs false
set_option linter.unusedVariables false
set_option linter.unusedSimpArgs false
namespace Go.Proofs.YtienepcknafddaaDoor
open Go Go.RowKit Go.Conc Co Cr SimPlain HeapPlain SymPlain
open Go.ConcM
open Go.ConcN (WgLive)

section
variable {Post : Value → World → Prop} {r : Rts} {w : World} {n0 : Nat} {W0 : Past} {A : Option Addr} {b off cap L H Q C Wg h : Nat} {l : List Ev} {z : Int}
set_option maxRecDepth 100000 in
set_option maxHeartbeats 8000000 in
/-- what is left to do behind the loop -/
theorem sort_tail {cs : List Frame} {t : Array Value} (F : CsF n0 W0 r w A b off cap l L H Q C Wg h h) (hl : WgLive wgL.tWg Wg w) (hS : S31 t L H Q Wg)
    (cont : ∀ (t : Array Value) (todo : List Item) (r : Rts) (w : World) (g : Option Addr) (c : Nat) (S : List Ev), Hold n0 W0 r w → PA r w g c S → S.Perm l → S.Pairwise SimPlain.Lt → t.size = 31 → t[4]? = some (.slice g S.length c) → t[5]? = some .nilIface → ME Tryd.prog wgL.tWg Post (.chs []) 0 r (G { (base 6).at ⟨t, []⟩ todo with mode := .returning } cs) w) :
    ME Tryd.prog wgL.tWg Post (.wg Wg (jobsOf C l h h) (.idle h)) 0 r (G ((base 6).at ⟨t, []⟩ [.code (.seq (.region 14 rs14 false) (.seq (.region 15 rs15 false) .ret))]) cs) w := by
  obtain ⟨x0, x1, x2, x3, x4, x5, x6, x7, x8, x9, x10, x11, x12, x13, x14, x15, x16, x17, x18, x19, x20, x21, x22, x23, x24, x25, x26, x27, x28, x29, x30, rfl⟩ := arr31 hS.size
  obtain rfl : x2 = _ := by simpa using hS.t2
  obtain rfl : x3 = _ := by simpa using hS.t3
  obtain rfl : x7 = _ := by simpa using hS.t7
  obtain rfl : x8 = _ := by simpa using hS.t8
  clear hS
  simp only [rs14, rs15, qSd, Tryd.f6]
  have hF : KW r (WgLive wgL.tWg Wg) w w := ⟨Rely.refl _ _, hl⟩
  refine me_run (m := 2) rfl hl ?_
  w_go kw_rely
  w_go kw_rely
  refine Goes.stop (fun w₁ h₁ => ?_)
  replace hF := kw_rely hF h₁
  replace F := F.rely hF.1
  replace hl := hF.2
  clear h₁ hF
  refine me_callWait wgLib rfl rfl (by decide) rfl rfl F.wg hl fun w2 h2 qs hq => ?_
  walk_nrm
  replace F := F.rely h2
  obtain ⟨Wf, p1, p2, p3, p4⟩ := F.joined hq
  obtain ⟨hpl, hfl⟩ := pl_of F.h1 F.ok F.bef (fun _ _ h => h) p1 p2
  have hold : Hold n0 W0 (r.full qs) w2 := F.cr.q.hold.full qs
  have FQ : CqF n0 W0 (r.full qs) w2 A b off cap l := F.cr.q.mono hold fun _ h => .inl h
  have hQ := F.hQ
  have rQ : RdB (r.full qs) Q := F.rQ.mono fun _ h => .inl h
  have gC := F.gC
  have h1 := F.h1
  have h6 := F.h6
  have parts : ∀ i W, ((List.range h).map Wf)[i]? = some W → PartAt (r.full qs) w2 C i W := fun i W e => by
    obtain ⟨hi, rfl⟩ := range_get e
    exact p3 i hi
  clear hq F p1 p2 p3 hl h2
  generalize r.full qs = r2 at *
  have hF : KW r2 ((Sg.chs []).iv wgL.tWg) w2 w2 := ⟨Rely.refl _ _, trivial⟩
  refine me_run (m := 3) rfl trivial ?_
  w_go kw_rely
  w_go kw_rely
  w_go kw_rely
  refine Goes.stop (fun w₁ h₁ => ?_)
  replace hF := kw_rely hF h₁
  have hr := hF.1
  clear h₁ hF
  refine me_ld rfl rfl (by decide) loud4 rfl (ld35 rfl rfl) (hr.cell hQ (rQ.2 _ rfl)) (rQ.2 _ rfl) ?_
  walk_nrm
  refine me_call (c := body13) rfl rfl (by decide) rfl Tryd.func17 names13 (by kernel_rfl) ?_
  walk_nrmf Tryd.ntmps17
  refine gather_all (hold.rely hr) p4 gC (by simp) h6 h1 (fun i W e => (parts i W e).rely p4 hr) hpl fun t todo r3 w3 g c S hold3 hpa hperm hsrt hs ht2 => ?_
  refine me_leave1 rfl rfl Tryd.func17 rfl ?_
  walk_nrm
  simp only [ht2, Option.getD_some]
  have hF : KW r3 ((Sg.chs []).iv wgL.tWg) w3 w3 := ⟨Rely.refl _ _, trivial⟩
  refine me_run (m := 4) rfl trivial ?_
  w_go kw_rely
  w_go kw_rely
  w_go kw_rely
  w_go kw_rely
  refine Goes.stop (fun w₁ h₁ => ?_)
  replace hF := kw_rely hF h₁
  exact cont _ _ r3 _ g c S (hold3.rely hF.1) (hpa.rely hF.1) (hperm.trans hfl) hsrt rfl rfl rfl
set_option maxRecDepth 100000 in
set_option maxHeartbeats 8000000 in
/-- CREW.SORT -/
theorem crew_sort {cs : List Frame} (F : CqF n0 W0 r w A b off cap l) (h1 : 1 ≤ h) (h6 : h ≤ 6) (hbef : l.Pairwise Bef)
    (bad : ∀ (t : Array Value) (todo : List Item) (r : Rts) (w : World), chkI l ≠ 0 → Hold n0 W0 r w → t.size = 31 → t[4]? = some (.slice none 0 0) → t[5]? = some (errV 36 (chkI l)) → ME Tryd.prog wgL.tWg Post (.chs []) 0 r (G { (base 6).at ⟨t, []⟩ todo with mode := .returning } cs) w)
    (cont : ∀ (t : Array Value) (todo : List Item) (r : Rts) (w : World) (g : Option Addr) (c : Nat) (S : List Ev), chkI l = 0 → Hold n0 W0 r w → PA r w g c S → S.Perm l → S.Pairwise SimPlain.Lt → t.size = 31 → t[4]? = some (.slice g S.length c) → t[5]? = some .nilIface → ME Tryd.prog wgL.tWg Post (.chs []) 0 r (G { (base 6).at ⟨t, []⟩ todo with mode := .returning } cs) w) :
    ME Tryd.prog wgL.tWg Post (.chs []) 0 r (G ((base 6).at ⟨#[.slice A l.length cap, .int .i64 h, undef, undef, undef, undef, undef, undef, undef, undef, undef, undef, undef, undef, undef, undef, undef, undef, undef, undef, undef, undef, undef, undef, undef, undef, undef, undef, undef, undef, undef], []⟩ [.code body4]) cs) w := by
  refine sort_head (z := (h : Int)) F (fun t todo r w hk F hs h4 h5 => bad t todo r w hk F.hold hs h4 h5) fun t r w L H hk F hs h2 h3 => ?_
  refine sort_make F h1 h6 hk hbef hs h2 h3 fun t r w Q C Wg F hl hS => ?_
  obtain ⟨x0, x1, x2, x3, x4, x5, x6, x7, x8, x9, x10, x11, x12, x13, x14, x15, x16, x17, x18, x19, x20, x21, x22, x23, x24, x25, x26, x27, x28, x29, x30, rfl⟩ := arr31 hS.size
  obtain rfl : x2 = _ := by simpa using hS.t2
  obtain rfl : x3 = _ := by simpa using hS.t3
  obtain rfl : x7 = _ := by simpa using hS.t7
  obtain rfl : x8 = _ := by simpa using hS.t8
  clear hs h2 h3 hS
  simp only [rs7, rs8, qSd, Tryd.f6]
  have hF : KW r (WgLive wgL.tWg Wg) w w := ⟨Rely.refl _ _, hl⟩
  refine me_run (m := 4) rfl hl ?_
  w_go kw_rely
  w_go kw_rely
  w_go kw_rely
  w_go kw_rely
  refine Goes.stop (fun w₁ h₁ => ?_)
  replace hF := kw_rely hF h₁
  replace F := F.rely hF.1
  replace hl := hF.2
  clear h₁ hF
  refine me_ld rfl rfl (by decide) loud4 rfl (ld3 rfl rfl) F.cr.hH (F.cr.rH.2 _ rfl) ?_
  walk_nrm
  have hF : KW r (WgLive wgL.tWg Wg) w₁ w₁ := ⟨Rely.refl _ _, hl⟩
  refine me_run (m := 4) rfl hl ?_
  w_go kw_rely
  w_go kw_rely
  w_go kw_rely
  w_go kw_rely
  refine Goes.stop (fun w₁ h₁ => ?_)
  replace hF := kw_rely hF h₁
  exact sort_loop (fun t r w F hl hS => sort_tail F hl hS fun t todo r w g c S => cont t todo r w g c S hk) h 0 _ r _ (by omega) (F.rely hF.1) hF.2 ⟨rfl, rfl, rfl, rfl, rfl⟩ rfl rfl
end
end Go.Proofs.YtienepcknafddaaDoor
end

section
set_option linter.unusedVariables false
set_option linter.unusedSimpArgs false
set_option linter.unusedVariables false
set_option linter.unusedSimpArgs false
namespace Go.Proofs.YtienepcknafddaaDoor
open Go Go.RowKit Go.Conc Co Cr SimPlain HeapPlain SymPlain
open Go.ConcM

section
variable {ρ : Operand → Value} {o : Oper} {x y : Operand}
theorem ld28 {b off : Nat} {v0 v1 : Value} (hop : o.op = .load 34 x) (hx : ρ x = .pointer (some ⟨b, off, none⟩)) (w : World) (h0 : w.cell? ⟨b, off, none⟩ = some v0) (h1 : w.cell? ⟨b, off + 1, none⟩ = some v1) : (execOp ρ o).run Tryd.prog w = .ok (.value (.agg #[v0, v1])) w ∧ (execOp ρ o).events Tryd.prog w #[] = #[⟨.cell ⟨b, off, none⟩, false, false⟩, ⟨.cell ⟨b, off + 1, none⟩, false, false⟩] := by
  unfold execOp; simp only [hop, hx]
  constructor
  · simp [go_sem, h0, h1, Addr.add, loadCells, loadCellsFrom]
  · simp [go_sem, h0, h1, Addr.add, loadCells, loadCellsFrom]
theorem item_guard (op : BinOp) (x y : Operand) (xs ys : Array Value) (w : World) : (eqGuard op 34 x y (.agg xs) (.agg ys)).run Tryd.prog w = .ok () w := run_eqGuard_agg w op _ x y xs ys (by kernel_rfl)
theorem item_neq (t id : Int) (w : World) : (binOp .neq 34 (.agg #[.int .i64 t, .int .i64 id]) (.agg #[.int .i64 t, .int .i64 id])).run Tryd.prog w = .ok (.bool false) w := by
  have u3 := Tryd.underlying3
  have a3 := Tryd.isAgg3
  have z3 := Tryd.sizeOf3
  have hS : Tryd.prog.underlying 34 = some (.struct (Tryd.prog.fieldsOf 34)) := by kernel_rfl
  have hp : Tryd.prog.stoodInHeld 34 = false := by kernel_rfl
  rw [run_neq_struct, show (10000 : Nat) = 9999 + 1 from rfl, run_equalIn_agg w 9999 34 _ _ hS hp]
  simp only [Program.fieldsOf, Tryd.underlying34]
  go_simp
theorem ev_neq28 (t id : Int) (w : World) (es : Array Event) : (binOp .neq 34 (.agg #[.int .i64 t, .int .i64 id]) (.agg #[.int .i64 t, .int .i64 id])).events Tryd.prog w es = es := by
  have h : ∀ d, (Op.equalIn (d + 1 + 1) 34 (.agg #[.int .i64 t, .int .i64 id]) (.agg #[.int .i64 t, .int .i64 id])).events Tryd.prog w es = es := fun d => by
    simp [Op.equalIn, go_sem]
  have h' : (Op.equal 34 (.agg #[.int .i64 t, .int .i64 id]) (.agg #[.int .i64 t, .int .i64 id])).events Tryd.prog w es = es := h 9998
  simp only [binOp]
  simp [h']
theorem ev_guard (op : BinOp) (x y : Operand) (xs ys : Array Value) (w : World) (es : Array Event) : (eqGuard op 34 x y (.agg xs) (.agg ys)).events Tryd.prog w es = es := by
  simp [eqGuard]
theorem ne28 {t id : Int} (hop : o.op = .binOp .neq 34 x y 34) (hx : ρ x = .agg #[.int .i64 t, .int .i64 id]) (hy : ρ y = .agg #[.int .i64 t, .int .i64 id]) (w : World) : (execOp ρ o).run Tryd.prog w = .ok (.value (.bool false)) w ∧ (execOp ρ o).events Tryd.prog w #[] = #[] := by
  unfold execOp; simp only [hop, hx, hy]
  constructor
  · simp [item_guard, item_neq]
  · simp [item_guard, ev_neq28, ev_guard]
theorem ix22 {B O i n c : Nat} (hi : i < n) (hop : o.op = .indexAddr 22 x y) (hx : ρ x = .slice (some ⟨B, O, none⟩) n c) (hy : ρ y = .int .i64 i) (w : World) : (execOp ρ o).run Tryd.prog w = .ok (.value (.pointer (some ⟨B, O + i * 2, none⟩))) w ∧ (execOp ρ o).events Tryd.prog w #[] = #[] := by
  have i1 : (0 : Int) ≤ (i : Int) := by omega
  have i2 : (i : Int) < (n : Int) := by omega
  have i3 : ¬ ((n : Int) ≤ (i : Int)) := by omega
  unfold execOp; simp only [hop, hx, hy]; simp [go_sem, i1, i2, i3]
end
noncomputable def qI : Code := match Tryd.f8.body with | some (.seq _ (.seq _ (.seq (.seq _ (.block _ (.loop c))) _))) => c | _ => .skip
noncomputable def ri6 : Array Oper := match qI with | .seq _ (.seq (.block _ (.seq (.region _ o _) _)) _) => o | _ => #[]
theorem ri6_size : ri6.size = 9 := by kernel_rfl
noncomputable def oi (i : Nat) : Oper := ri6.getD i default
theorem oi_at {i : Nat} (h : i < 9) : ri6[i]? = some (oi i) := op_at (by rw [ri6_size]; exact h)
theorem oi_guard : (List.range 9).all (fun i => (oi i).guard.isNone) = true := by kernel_rfl
theorem oi_wanted {i : Nat} (h : i < 9) (y : Nat → Option Bool) : Region.wanted (oi i) y = true :=
  wanted_free (Option.isNone_iff_eq_none.1 (List.all_eq_true.1 oi_guard i (List.mem_range.2 h))) y
theorem oi_dst : (List.range 9).all (fun i => (oi i).dst == some (17 + i)) = true := by kernel_rfl
theorem oi_dst' {i : Nat} (h : i < 9) : (oi i).dst = some (17 + i) := by simpa using List.all_eq_true.1 oi_dst i (List.mem_range.2 h)
theorem oi0 : (oi 0).op = .move (.tmp 0) := by kernel_rfl
theorem oi1 : (oi 1).op = .move (.tmp 5) := by kernel_rfl
theorem oi2 : (oi 2).op = .indexAddr 22 (.tmp 17) (.tmp 18) := by kernel_rfl
theorem oi3 : (oi 3).op = .load 34 (.tmp 19) := by kernel_rfl
theorem oi4 : (oi 4).op = .move (.tmp 1) := by kernel_rfl
theorem oi5 : (oi 5).op = .move (.tmp 5) := by kernel_rfl
theorem oi6 : (oi 6).op = .indexAddr 22 (.tmp 21) (.tmp 22) := by kernel_rfl
theorem oi7 : (oi 7).op = .load 34 (.tmp 23) := by kernel_rfl
theorem oi8 : (oi 8).op = .binOp .neq 34 (.tmp 20) (.tmp 24) 34 := by kernel_rfl
def depi (i j : Nat) : Prop := ((oi i).after.any fun e => e.on == j && Region.binds .any e) = true
theorem depi2 : depi 2 0 ∧ depi 2 1 := ⟨by unfold depi; kernel_rfl, by unfold depi; kernel_rfl⟩
theorem depi3 : depi 3 2 := by unfold depi; kernel_rfl
theorem depi6 : depi 6 4 ∧ depi 6 5 := ⟨by unfold depi; kernel_rfl, by unfold depi; kernel_rfl⟩
theorem depi7 : depi 7 6 := by unfold depi; kernel_rfl
theorem depi8 : depi 8 3 ∧ depi 8 7 := ⟨by unfold depi; kernel_rfl, by unfold depi; kernel_rfl⟩
theorem alli (mixed : Bool) (t i : Nat) (hi : i < ri6.size) : i ∈ Region.schedule mixed ri6 t :=
  schedule_all (o1 := List.range 9) (o2 := List.range 9) (by kernel_rfl) (by kernel_rfl) (by rw [ri6_size]; decide) (by rw [ri6_size]; decide) (by rw [ri6_size]; decide) (by rw [ri6_size]; decide) (by kernel_rfl) mixed t hi
theorem loud6 : (Tryd.prog.funcs[8]?).any (·.norace) = false := by kernel_rfl
section
variable {Post : Value → World → Prop} {r : Rts} {w w' : World} {b b' off off' i N c c' : Nat} {t id : Int} {g g' : Option Addr} {S : List Ev}
/-- a load of an item -/
theorem me_ld2 {σ : Sg} {d : Nat} {bf : Frame} {a : _root_.Go.Act} {k : List Item} {cs : List Frame} {ops : Array Oper} {j : Nat} {rest : List Nat} {o : Oper} (ho : ops[j]? = some o) (hg : Region.wanted o (yielded ops a.tmps) = true) (hk : bf.kind ≠ .early) (hl : (Tryd.prog.funcs[bf.fn]?).any (·.norace) = false) {v0 v1 : Value}
    (hrun : ∀ w : World, w.cell? ⟨b, off, none⟩ = some v0 → w.cell? ⟨b, off + 1, none⟩ = some v1 → (execOp a.eval o).run Tryd.prog w = .ok (.value (.agg #[v0, v1])) w ∧ (execOp a.eval o).events Tryd.prog w #[] = #[⟨.cell ⟨b, off, none⟩, false, false⟩, ⟨.cell ⟨b, off + 1, none⟩, false, false⟩])
    (h0 : w.cell? ⟨b, off, none⟩ = some v0) (h1 : w.cell? ⟨b, off + 1, none⟩ = some v1) (hr : ∀ a : Addr, a.block = b → r.rd (.cell a))
    (hT : ME Tryd.prog wgL.tWg Post σ d r (G (bf.at (a.put o.dst (.agg #[v0, v1])) (.inRegion ops rest :: k)) cs) w) : ME Tryd.prog wgL.tWg Post σ d r (G (bf.at a (.inRegion ops (j :: rest) :: k)) cs) w := by
  refine ME.silent rfl fun w1 hw1 _ => ?_
  have k0 := hw1.cell h0 (hr _ rfl)
  have k1 := hw1.cell h1 (hr _ rfl)
  refine ⟨_, w1, _, by rw [stepG_value ho hg hk (hrun w1 k0 k1).1, listed_loud hl (hrun w1 k0 k1).2 (by simp)], ⟨Turn.refl _ _, fun e he => ?_⟩, by rw [new_self]; exact hT.rely hw1⟩
  simp only [List.mem_toArray, List.mem_cons, List.not_mem_nil, or_false] at he
  rcases he with rfl | rfl
  · exact evok_read (hr _ rfl) (cell_lt k0)
  · exact evok_read (hr _ rfl) (cell_lt k1)
/-- what has been computed -/
def vali (b b' i N c c' : Nat) (t id : Int) : Nat → Value
  | 0 => .slice (some ⟨b, 0, none⟩) N c
  | 1 => .int .i64 i
  | 2 => .pointer (some ⟨b, 0 + i * 2, none⟩)
  | 3 => .agg #[.int .i64 t, .int .i64 id]
  | 4 => .slice (some ⟨b', 0, none⟩) N c'
  | 5 => .int .i64 i
  | 6 => .pointer (some ⟨b', 0 + i * 2, none⟩)
  | 7 => .agg #[.int .i64 t, .int .i64 id]
  | _ => .bool false
structure TI (b b' i N c c' : Nat) (t id : Int) (t0 s : Array Value) (l : List Nat) : Prop where
  size : s.size = 26
  same : ∀ j, j < 17 → s[j]? = t0[j]?
  val : ∀ j, j < 9 → j ∉ l → s[17 + j]? = some (vali b b' i N c c' t id j)
theorem TI.next {t0 s : Array Value} {j : Nat} {l : List Nat} (h : TI b b' i N c c' t id t0 s (j :: l)) (hj : j < 9) : TI b b' i N c c' t id t0 (s.setIfInBounds (17 + j) (vali b b' i N c c' t id j)) l := by
  refine ⟨by simpa using h.size, fun x hx => by rw [Array.getElem?_setIfInBounds_ne (by omega)]; exact h.same x hx, fun x hx hn => ?_⟩
  by_cases e : x = j
  · subst e
    rw [Array.getElem?_setIfInBounds_self_of_lt (by rw [h.size]; omega)]
  · rw [Array.getElem?_setIfInBounds_ne (by omega)]
    exact h.val x hx (notin_cons hn e)
set_option maxRecDepth 100000 in
set_option maxHeartbeats 4000000 in
theorem it_ops {t0 : Array Value} {k0 : List Item} {cs : List Frame} (hi : i < N) (t00 : t0[0]? = some (.slice (some ⟨b, 0, none⟩) N c)) (t01 : t0[1]? = some (.slice (some ⟨b', 0, none⟩) N c')) (t05 : t0[5]? = some (.int .i64 i))
    (h0 : w.cell? ⟨b, 0 + i * 2, none⟩ = some (.int .i64 t)) (h1 : w.cell? ⟨b, 0 + i * 2 + 1, none⟩ = some (.int .i64 id)) (h2 : w.cell? ⟨b', 0 + i * 2, none⟩ = some (.int .i64 t)) (h3 : w.cell? ⟨b', 0 + i * 2 + 1, none⟩ = some (.int .i64 id)) (hr : ∀ a : Addr, a.block = b → r.rd (.cell a)) (hr' : ∀ a : Addr, a.block = b' → r.rd (.cell a))
    (cont : ∀ s : Array Value, s.size = 26 → (∀ j, j < 17 → s[j]? = t0[j]?) → s[25]? = some (.bool false) → ME Tryd.prog wgL.tWg Post (.chs []) 0 r (G ((base 8).at ⟨s, []⟩ (.inRegion ri6 [] :: k0)) cs) w) :
    ∀ (l : List Nat) (s : Array Value), OrdInv ri6 l → TI b b' i N c c' t id t0 s l → ME Tryd.prog wgL.tWg Post (.chs []) 0 r (G ((base 8).at ⟨s, []⟩ (.inRegion ri6 l :: k0)) cs) w
  | [], s, _, hT => cont s hT.size hT.same (hT.val 8 (by omega) (by simp))
  | j :: l, s, hO, hT => by
    have hj : j < 9 := by have := hO.lt j (by simp); rwa [ri6_size] at this
    have go : ∀ x, x < 9 → depi j x → s[17 + x]? = some (vali b b' i N c c' t id x) := fun x hx hd => hT.val x hx (hO.done' (oi_at hj) hd)
    have ih := it_ops hi t00 t01 t05 h0 h1 h2 h3 hr hr' cont l _ hO.tail (hT.next hj)
    have hdst := oi_dst' hj
    have key : ∀ x, x = vali b b' i N c c' t id j → ME Tryd.prog wgL.tWg Post (.chs []) 0 r (G ((base 8).at ((⟨s, []⟩ : _root_.Go.Act).put (oi j).dst x) (.inRegion ri6 l :: k0)) cs) w := fun x e => by
      rw [e, hdst]; exact ih
    have s0 := (hT.same 0 (by omega)).trans t00
    have s1 := (hT.same 1 (by omega)).trans t01
    have s5 := (hT.same 5 (by omega)).trans t05
    match j, hj, go, key with
    | 0, hj, go, key => exact me_op (oi_at hj) (oi_wanted hj _) (by decide) loud6 (mv1 oi0 (ev_tmp s0)) (key _ rfl)
    | 1, hj, go, key => exact me_op (oi_at hj) (oi_wanted hj _) (by decide) loud6 (mv1 oi1 (ev_tmp s5)) (key _ rfl)
    | 2, hj, go, key => exact me_op (oi_at hj) (oi_wanted hj _) (by decide) loud6 (ix22 hi oi2 (ev_tmp (go 0 (by omega) depi2.1)) (ev_tmp (go 1 (by omega) depi2.2))) (key _ rfl)
    | 3, hj, go, key => exact me_ld2 (oi_at hj) (oi_wanted hj _) (by decide) loud6 (ld28 oi3 (ev_tmp (go 2 (by omega) depi3))) h0 h1 hr (key _ rfl)
    | 4, hj, go, key => exact me_op (oi_at hj) (oi_wanted hj _) (by decide) loud6 (mv1 oi4 (ev_tmp s1)) (key _ rfl)
    | 5, hj, go, key => exact me_op (oi_at hj) (oi_wanted hj _) (by decide) loud6 (mv1 oi5 (ev_tmp s5)) (key _ rfl)
    | 6, hj, go, key => exact me_op (oi_at hj) (oi_wanted hj _) (by decide) loud6 (ix22 hi oi6 (ev_tmp (go 4 (by omega) depi6.1)) (ev_tmp (go 5 (by omega) depi6.2))) (key _ rfl)
    | 7, hj, go, key => exact me_ld2 (oi_at hj) (oi_wanted hj _) (by decide) loud6 (ld28 oi7 (ev_tmp (go 6 (by omega) depi7))) h2 h3 hr' (key _ rfl)
    | 8, hj, go, key => exact me_op (oi_at hj) (oi_wanted hj _) (by decide) loud6 (ne28 oi8 (ev_tmp (go 3 (by omega) depi8.1)) (ev_tmp (go 7 (by omega) depi8.2))) (key _ rfl)
end
end Go.Proofs.YtienepcknafddaaDoor
end
