/- WALK: slots.Rooms. -/
import Derived.Test.YtdalffmmkhcdaaaSpBy2
import Derived.Test.YtdalffmmkhcdaaaSpGreedy
import Derived.WalkMore
set_option linter.unusedVariables false
set_option linter.unusedSimpArgs false
namespace Go.Proofs.Ytdalffmmkhcdaaa
open Go Go.RowKit SimPlain HeapPlain SymPlain SpPlain

theorem Rooms_bad (l : List Ev) (a : Option Addr) (cap : Nat) (w : World) (hx : EvA w a l) (hl : l.length ≤ 9223372036854775807) (hn : ¬ FineS l) :
    Calls Try.prog 6 #[.slice a l.length cap] w fun e w' => (∃ v, e = .returned (.tuple #[.slice none 0 0, .iface 59 v])) ∧ Below w.heap.size w w' := by
  have HC := Lib.hid (CheckS_any l a cap w hx hl)
  have HN := Lib.hid hn
  clear hx hn
  go_enter Try.func6, Try.ntmps6
  go_wp2_with fail
  go_step3
  go_wp2_with fail
  refine HC.out.mono ?_
  rintro e w1 ⟨⟨ev, rfl, hc⟩, hb⟩
  rcases hc with ⟨_, hf⟩ | ⟨⟨v, rfl⟩, _⟩
  · exact absurd hf HN.out
  · go_wp2
    rw [Exit.noGoto_ret]
    go_ret2
    exact ⟨⟨v, rfl⟩, hb⟩
theorem tag_act (l W : List Ev) (hp : W.Perm (tag l)) (t : Int) : act W t = act l t := by
  have e : tag l = (List.range l.length).map (tagAt l) := rfl
  unfold SpPlain.act SpPlain.begun SpPlain.ended
  rw [hp.countP_eq, hp.countP_eq, e, List.countP_map, List.countP_map]
  have key : ∀ p : Ev → Bool, (∀ i, p (tagAt l i) = p (l.getD i e0)) → (List.range l.length).countP (p ∘ tagAt l) = l.countP p := fun p hp => by
    have e2 : l = (List.range l.length).map fun i => l.getD i e0 := by
      apply List.ext_getElem
      · simp
      · intro i h1 h2
        simp [List.getD_eq_getElem?_getD, List.getElem?_eq_getElem h1]
    have e3 : l.countP p = ((List.range l.length).map fun i => l.getD i e0).countP p := congrArg (fun z => z.countP p) e2
    rw [e3, List.countP_map]
    refine List.countP_congr fun i _ => ?_
    simp [hp]
  rw [key (fun e => decide (e.t ≤ t)) fun i => rfl, key (fun e => decide (e.id ≤ t)) fun i => rfl]
/-- of the places in order: which one comes next -/
structure NextS (l W : List Ev) (k : Nat) (x : Ev) (i : Nat) : Prop where
  eq : x = tagAt l i
  lt : i < l.length
  take : W.take (k + 1) = W.take k ++ [x]
  le : ∀ y ∈ W.take k, y.t ≤ x.t
  new : ∀ y ∈ W.take k, y.s ≠ x.s
  ok : okS (l.getD i e0)
  deep : (live (W.take k ++ [x]) x.t : Int) ≤ mostTo l 1001
theorem next_of {l W : List Ev} (hf : FineS l) (hp : W.Perm (tag l)) (hs : W.Pairwise Lt) {k : Nat} (hk : k < W.length) : ∃ i, NextS l W k (W.getD k e0) i := by
  have hg : W.getD k e0 = W[k] := getD_lt e0 W k hk
  have hm : W.getD k e0 ∈ tag l := hp.mem_iff.1 (by rw [hg]; exact List.getElem_mem hk)
  obtain ⟨i, hi, hx⟩ := List.mem_map.1 hm
  have hi := List.mem_range.1 hi
  have htk : W.take (k + 1) = W.take k ++ [W.getD k e0] := by rw [hg, List.take_succ_eq_append_getElem hk]
  have hpre : (W.take k ++ [W.getD k e0]).Pairwise Lt := by rw [← htk]; exact hs.sublist (List.take_sublist _ _)
  have hnd : (W.map fun e => e.s).Nodup := by
    have h1 : ((tag l).map fun e => e.s).Nodup := by
      unfold tag
      rw [List.map_map]
      refine List.pairwise_map.2 ((List.pairwise_lt_range (n := l.length)).imp fun h => ?_)
      show ((_ : Nat) : Int) ≠ ((_ : Nat) : Int)
      omega
    exact ((hp.map fun e => e.s).nodup_iff).2 h1
  have hok := hf.all i hi
  refine ⟨i, hx.symm, hi, htk, fun y hy => ?_, fun y hy => ?_, hok, ?_⟩
  · have := (List.pairwise_append.1 hpre).2.2 y hy _ (List.mem_singleton.2 rfl)
    unfold Lt at this; omega
  · have h1 : ((W.take k ++ [W.getD k e0]).map fun e => e.s).Nodup := by rw [← htk]; exact hnd.sublist ((List.take_sublist _ _).map _)
    rw [List.map_append] at h1
    exact (List.pairwise_append.1 h1).2.2 y.s (List.mem_map.2 ⟨y, hy, rfl⟩) _ (List.mem_singleton.2 rfl)
  · rw [← htk]
    have h1 : live (W.take (k + 1)) (W.getD k e0).t ≤ live W (W.getD k e0).t := (List.take_sublist _ _).countP_le
    have hlt : ∀ e ∈ W, e.t < e.id := fun e he => by
      obtain ⟨j, hj, rfl⟩ := List.mem_map.1 (hp.mem_iff.1 he)
      exact (hf.all j (List.mem_range.1 hj)).2.2
    have h2 := act_live W hlt (W.getD k e0).t
    rw [tag_act l W hp] at h2
    have hxt : (W.getD k e0).t = (l.getD i e0).t := by rw [← hx]; rfl
    have hok0 := hok.1.1
    have hok1 := hok.1.2
    obtain ⟨t, ht⟩ : ∃ t : Nat, (W.getD k e0).t = t := ⟨(W.getD k e0).t.toNat, by rw [hxt]; omega⟩
    have h3 : t < 1001 := by omega
    have h4 := mostTo_ge l h3
    rw [ht] at h1 h2 ⊢
    omega
end Go.Proofs.Ytdalffmmkhcdaaa
