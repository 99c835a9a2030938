/- WALKS: the stable sort of a few items, order.Sort, ricksteadtop.sortFact: a closed fact. -/
import Derived.Test.YtdalffmmkhcdaaaItFact
set_option linter.unusedVariables false
set_option linter.unusedSimpArgs false
namespace Go.Proofs.Ytdalffmmkhcdaaa.It
open Go Go.RowKit SimPlain HeapPlain SymPlain

def StableRes (l0 : List Ev) (g cap B : Nat) (w : World) (e : Ending) (w' : World) : Prop := ∃ W, e = .returned (.tuple #[]) ∧ W.Perm l0 ∧ W.Pairwise Lt ∧ EtOwn w' B (some ⟨g, 0, none⟩) cap W ∧ Only w w' (fun k => k = g)
theorem stable_any (l0 : List Ev) (hbef : l0.Pairwise Bef) (N : Nat) (hN : N = l0.length) (h60 : N ≤ 19) (h0 : 0 < N) (g cap B : Nat) (w : World) (hrow : EtOwn w B (some ⟨g, 0, none⟩) cap l0) :
    Calls Try.prog 27 #[.slice (some ⟨g, 0, none⟩) N cap, .int .i64 N, fvK] w (StableRes l0 g cap B w) := by
  have h1 : decide ((20 : Int) ≤ ((N : Nat) : Int)) = false := by simp; omega
  have h2 : decide ((20 : Int) < ((N : Nat) : Int)) = false := by simp; omega
  have hgw := lt_of_block (hrow.block (by omega)).choose_spec
  have I := Lib.hid (insertion_any [] l0 [] g cap B w N 0 N (by simpa using hN) rfl (by simpa using hN) hbef (by omega) hgw (by simpa using hrow))
  clear h60 hN hrow hgw hbef h0
  unfold fvK at *
  go_enter Try.func27, Try.ntmps27
  go_wp2
  refine wp_loop_rounds 1 ?_
  rw [rounds_succ]
  go_wp2_with fail
  refine I.out.mono ?_
  rintro e w1 ⟨W, rfl, hp, hs, hr, ho⟩
  have HR : Hid (StableRes l0 g cap B w (.returned (.tuple #[])) w1) := Lib.hid ⟨W, rfl, hp, hs, by simpa using hr, ho⟩
  clear hp hs hr ho
  go_wp2
  refine wp_loop_rounds 1 ?_
  rw [rounds_succ]
  go_wp2
  go_end0
  exact HR.out
theorem sortStable_any (l0 : List Ev) (hbef : l0.Pairwise Bef) (N : Nat) (hN : N = l0.length) (h60 : N ≤ 19) (h0 : 0 < N) (g cap B : Nat) (w : World) (hrow : EtOwn w B (some ⟨g, 0, none⟩) cap l0) :
    Calls Try.prog 22 #[.slice (some ⟨g, 0, none⟩) N cap, fvK] w (StableRes l0 g cap B w) := by
  have hS := Lib.hid (stable_any l0 hbef N hN h60 h0 g cap B w hrow)
  clear hbef hN hrow
  unfold fvK at *
  go_enter Try.func22, Try.ntmps22
  go_wp2_with fail
  refine hS.out.mono ?_
  rintro e w2 ⟨W, rfl, hp, hs, hc⟩
  go_wp2
  go_end0
  exact ⟨W, rfl, hp, hs, hc⟩
set_option maxRecDepth 100000 in
theorem Sort_ok (l : List Ev) (a : Option Addr) (cap : Nat) (w : World) (hx : EvA w a l) (hok : chkI l = 0) (h0 : 0 < l.length) (hbef : l.Pairwise Bef) (h19 : l.length ≤ 19) :
    Calls Try.prog 11 #[.slice a l.length cap] w fun e w' => ∃ g c W, e = .returned (.tuple #[.slice (some ⟨g, 0, none⟩) W.length c, .nilIface]) ∧ W.Perm l ∧ W.Pairwise Lt ∧ EtOwn w' w.heap.size (some ⟨g, 0, none⟩) c W ∧ Below w.heap.size w w' := by
  have h60 := (chkI_fine hok).1
  have hC := CheckI_any l a cap w hx (by omega)
  rw [hok, errV_ok] at hC
  have HC := Lib.hid hC
  obtain ⟨b, off, rfl, hbl, hc⟩ := hx.open h0
  obtain ⟨N, hN⟩ : ∃ N, N = l.length := ⟨_, rfl⟩
  have hCl : ∀ w1, Below w.heap.size w w1 → Calls Try.prog 21 #[.slice (some ⟨b, off, none⟩) N cap] w1
      fun e w' => ∃ g c, e = .returned (.slice (some ⟨g, 0, none⟩) N c) ∧ EtOwn w' w1.heap.size (some ⟨g, 0, none⟩) c l ∧ Below w1.heap.size w1 w' := fun w1 hb1 =>
    clone_any l b off cap N w1 hN (by omega) (by omega) (Nat.lt_of_lt_of_le hbl hb1.size) fun i hi =>
      ⟨(hb1.cell (p := ⟨b, off + i * 2, none⟩) hbl).trans (hc i hi).1, (hb1.cell (p := ⟨b, off + i * 2 + 1, none⟩) hbl).trans (hc i hi).2⟩
  have HCl := Lib.hid hCl
  have hSo := fun (g c B : Nat) (w2 : World) (hr : EtOwn w2 B (some ⟨g, 0, none⟩) c l) => sortStable_any l hbef N hN (by omega) (by omega) g c B w2 hr
  unfold fvK at hSo
  have HSo := Lib.hid hSo
  have HN := Lib.hid hN
  rw [← hN] at HC ⊢
  clear hC hCl hSo hc hx hok h0 hbef hN h60 hbl h19
  go_enter Try.func11, Try.ntmps11
  go_wp2_with fail
  refine HC.out.mono ?_
  rintro e w1 ⟨rfl, hb1⟩
  have HB1 := Lib.hid hb1
  clear hb1
  go_wp2_with fail
  refine (HCl.out w1 HB1.out).mono ?_
  rintro e w2 ⟨g, c, rfl, hE, hb2⟩
  have HE := Lib.hid hE
  have HB2 := Lib.hid hb2
  clear hE hb2
  go_wp2_with fail
  refine (HSo.out g c w1.heap.size w2 HE.out).mono ?_
  rintro e w3 ⟨W, rfl, hp, hs, hr, ho⟩
  have hW : W.length = N := by rw [hp.length_eq]; exact HN.out.symm
  have hgl := (HE.out.lt g rfl).1
  have h2 := HB1.out.size
  have hfin : Hid (∃ g' c' W', (Value.tuple #[.slice (some ⟨g, 0, none⟩) N c, .nilIface]) = .tuple #[.slice (some ⟨g', 0, none⟩) W'.length c', .nilIface] ∧ W'.Perm l ∧ W'.Pairwise Lt ∧ EtOwn w3 w.heap.size (some ⟨g', 0, none⟩) c' W' ∧ Below w.heap.size w w3) := Lib.hid
    ⟨g, c, W, by rw [hW], hp, hs, hr.mono h2, (HB1.out.trans (HB2.out.mono h2)).trans (ho.below (by have := HB2.out.size; omega) (fun k e => by omega))⟩
  clear hp hs hr ho hW hgl h2
  go_wp2
  refine bodyPost_ret (results_tmp2 rfl _ _ _) rfl ?_
  obtain ⟨g', c', W', e1, r⟩ := hfin.out
  exact ⟨g', c', W', by rw [← e1]; rfl, r⟩
theorem sorted_unique : ∀ {l l' : List Ev}, l.Perm l' → l.Pairwise Lt → l'.Pairwise Lt → l = l'
  | [], l', h, _, _ => (List.nil_perm.1 h).symm ▸ rfl
  | x :: l, [], h, _, _ => absurd h.length_eq (by simp)
  | x :: l, y :: l', h, h1, h2 => by
    obtain ⟨e, p⟩ := least_unique h (List.pairwise_cons.1 h1).1 (List.pairwise_cons.1 h2).1
    rw [e, sorted_unique p (List.pairwise_cons.1 h1).2 (List.pairwise_cons.1 h2).2]
theorem fact_sorted {W : List Ev} (hp : W.Perm ([⟨5, 1, 1⟩, ⟨3, 2, 2⟩])) (hs : W.Pairwise Lt) : W = [⟨3, 2, 2⟩, ⟨5, 1, 1⟩] :=
  sorted_unique (hp.trans (List.Perm.swap _ _ _)) hs (by
    refine List.Pairwise.cons (fun y hy => ?_) (List.Pairwise.cons (fun y hy => by cases hy) List.Pairwise.nil)
    simp only [List.mem_cons, List.not_mem_nil, or_false] at hy
    subst hy
    exact .inl (by decide))
set_option maxRecDepth 100000 in
set_option maxHeartbeats 2000000 in
theorem sortFact_any (w : World) : Calls Try.prog 4 #[] w fun e w' => e = .returned (.bool true) ∧ Below w.heap.size w w' := by
  have hb := heap_alloc_new w (.cells #[.int .i64 5, .int .i64 1, .int .i64 3, .int .i64 2] 46)
  have ho : Below w.heap.size w (w.alloc (.cells #[.int .i64 5, .int .i64 1, .int .i64 3, .int .i64 2] 46)) := (Below.refl _ _).alloc (Nat.le_refl _) _
  have hx : EvA (w.alloc (.cells #[.int .i64 5, .int .i64 1, .int .i64 3, .int .i64 2] 46)) (some ⟨w.heap.size, 0, none⟩) [⟨5, 1, 1⟩, ⟨3, 2, 2⟩] := by
    refine .inr ⟨w.heap.size, 0, rfl, by simp, fun i hi => ?_⟩
    have hi2 : i = 0 ∨ i = 1 := by simp at hi; omega
    rcases hi2 with rfl | rfl
    · exact ⟨by simp only [World.cell?, Nat.zero_mul, Nat.add_zero, hb]; rfl, by simp only [World.cell?, Nat.zero_mul, Nat.add_zero, hb]; rfl⟩
    · exact ⟨by simp only [World.cell?, hb]; rfl, by simp only [World.cell?, hb]; rfl⟩
  have hT := Sort_ok [⟨5, 1, 1⟩, ⟨3, 2, 2⟩] (some ⟨w.heap.size, 0, none⟩) 2 _ hx rfl (by decide) (List.Pairwise.cons (fun y hy => by simp only [List.mem_cons, List.not_mem_nil, or_false] at hy; subst hy; show (1 : Int) < 2; decide) (List.Pairwise.cons (fun y hy => by cases hy) List.Pairwise.nil)) (by decide)
  have HT := Lib.hid hT
  have HO := Lib.hid ho
  clear hT hx hb ho
  go_enter Try.func4, Try.ntmps4
  go_wp2_with fail
  refine HT.out.mono ?_
  rintro e w2 ⟨b, c, W, rfl, hp, hs, hE, hb2⟩
  have hW2 := fact_sorted hp hs
  subst hW2
  obtain ⟨b', e', _, _, hc⟩ := hE.open (by simp)
  obtain rfl : b = b' := by simpa using e'
  have c0 := (hc 0 (by simp)).1
  simp only [Nat.zero_mul] at c0
  replace c0 : w2.cell? ⟨b, 0, none⟩ = some (.int .i64 3) := c0
  have HB : Hid (Below w.heap.size w w2) := Lib.hid (HO.out.trans (hb2.mono HO.out.size))
  clear hb2 hp hs hE hc
  go_wp2
  go_ret
  exact ⟨rfl, HB.out⟩
end Go.Proofs.Ytdalffmmkhcdaaa.It
