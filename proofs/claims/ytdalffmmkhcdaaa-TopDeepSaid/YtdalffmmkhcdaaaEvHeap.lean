/- WALKS: sim.sooner; core.Heap[sim.planned]: Len, Push. -/
import Derived.Test.YtdalffmmkhcdaaaEvRow
import Derived.BigRegion
import Derived.StillTailTactics
import Derived.Laws.EntriesVeiled
import Derived.Deep.RegionHeld3
import Derived.Deep.AppendLies
set_option linter.unusedVariables false
set_option linter.unusedSimpArgs false
namespace Go.Proofs.Ytdalffmmkhcdaaa
open Go Go.RowKit SimPlain HeapPlain

def evV (e : Ev) : Value := .agg #[.int .i64 e.t, .int .i64 e.id, .int .i64 e.s]
def evO (e : Ev) : Obj := .cells #[.int .i64 e.t, .int .i64 e.id, .int .i64 e.s] 54
theorem sooner_any (x y : Ev) (w : World) : Calls Try.prog 16 #[evV x, evV y] w fun e w' => e = .returned (.bool (ltB x y)) ∧ w' = (w.alloc (evO x)).alloc (evO y) := by
  obtain ⟨t1, id1, s1⟩ := x
  obtain ⟨t2, id2, s2⟩ := y
  unfold evV evO
  simp only
  rcases Int.lt_or_le t1 t2 with h | h
  · have hr : ltB ⟨t1, id1, s1⟩ ⟨t2, id2, s2⟩ = true := decide_eq_true (show t1 < t2 ∨ (t1 = t2 ∧ s1 < s2) by omega)
    have HR := Lib.hid hr
    clear hr
    go_enter Try.func16, Try.ntmps16
    go_wp2
    go_ret
    exact ⟨ret_bool HR.out.symm, rfl⟩
  · have hD : decide (t1 < t2) = false := decide_eq_false (by omega)
    by_cases h2 : t1 = t2
    · have hE : (t1 == t2) = true := by simp [h2]
      rcases Int.lt_or_le s1 s2 with h3 | h3
      · have hr : ltB ⟨t1, id1, s1⟩ ⟨t2, id2, s2⟩ = true := decide_eq_true (show t1 < t2 ∨ (t1 = t2 ∧ s1 < s2) by omega)
        have HR := Lib.hid hr
        clear hr h2
        go_enter Try.func16, Try.ntmps16
        go_wp2
        go_ret
        exact ⟨ret_bool HR.out.symm, rfl⟩
      · have hr : ltB ⟨t1, id1, s1⟩ ⟨t2, id2, s2⟩ = false := decide_eq_false (show ¬ (t1 < t2 ∨ (t1 = t2 ∧ s1 < s2)) by omega)
        have HR := Lib.hid hr
        have hD3 : decide (s1 < s2) = false := decide_eq_false (by omega)
        clear hr h2
        go_enter Try.func16, Try.ntmps16
        go_wp2
        go_ret
        exact ⟨ret_bool HR.out.symm, rfl⟩
    · have hE : (t1 == t2) = false := by rw [beq_eq_false_iff_ne]; exact h2
      have hr : ltB ⟨t1, id1, s1⟩ ⟨t2, id2, s2⟩ = false := decide_eq_false (show ¬ (t1 < t2 ∨ (t1 = t2 ∧ s1 < s2)) by omega)
      have HR := Lib.hid hr
      clear hr h2
      go_enter Try.func16, Try.ntmps16
      go_wp2
      go_ret
      exact ⟨ret_bool HR.out.symm, rfl⟩

def lessE : Value := .func (.func 16) #[] #[]
theorem evInfo : (Try.prog.info? 54).map (fun i => (i.zero, i.size, i.bytes)) = some (some (.agg #[.int .i64 0, .int .i64 0, .int .i64 0]), 3, 24) := by kernel_rfl
/-- a heap of the call's own -/
structure HeapE (w : World) (B H : Nat) (a : Option Addr) (cap : Nat) (l : List Ev) : Prop where
  hb : B ≤ H
  h : w.heap[H]? = some (.cells #[.slice a l.length cap, lessE] 70 (0, 0))
  row : EvOwn w B a cap l
  apart : ∀ k, (Value.slice a l.length cap).ownBlock = some k → k ≠ H
theorem HeapE.c0 {w : World} {B H : Nat} {a : Option Addr} {cap : Nat} {l : List Ev} (h : HeapE w B H a cap l) : w.cell? ⟨H, 0, none⟩ = some (.slice a l.length cap) := by
  have := h.h
  simp [World.cell?, this]
theorem HeapE.c1 {w : World} {B H : Nat} {a : Option Addr} {cap : Nat} {l : List Ev} (h : HeapE w B H a cap l) : w.cell? ⟨H, 1, none⟩ = some lessE := by
  have := h.h
  simp [World.cell?, this]
theorem HeapE.free {w : World} {B H : Nat} {a : Option Addr} {cap : Nat} {l : List Ev} (h : HeapE w B H a cap l) (o : Nat) : w.frozen? ⟨H, o, none⟩ = false := by
  have := h.h
  simp [World.frozen?, this]
theorem HeapE.lt {w : World} {B H : Nat} {a : Option Addr} {cap : Nat} {l : List Ev} (h : HeapE w B H a cap l) : H < w.heap.size := lt_of_block h.h
theorem HeapE.drewN {w : World} {B H cap : Nat} {a : Option Addr} {l : List Ev} (h : HeapE w B H a cap l) (n : Nat) : HeapE (w.drewN n) B H a cap l := ⟨h.hb, h.h, h.row, h.apart⟩
/-- what Push and Pop touch of a heap -/
def Touch (H : Nat) (a : Option Addr) (cap n : Nat) (k : Nat) : Prop := k = H ∨ (Value.slice a n cap).ownBlock = some k
theorem HeapE.only {w w' : World} {B H cap : Nat} {a : Option Addr} {l : List Ev} (h : HeapE w B H a cap l) (o : Only w w' (fun k => ¬ Touch H a cap l.length k)) : HeapE w' B H a cap l := by
  have hs := h.row.lt
  refine ⟨h.hb, ?_, h.row.same fun k e => o.block k (hs k e).2 (fun c => c (.inr e)), h.apart⟩
  rw [o.block H h.lt (fun c => c (.inl rfl))]; exact h.h
theorem push_post {w W w2 : World} {B H g cap cap2 : Nat} {a : Option Addr} {l : List Ev} {x : Ev} (hH : HeapE w B H a cap l) (hW : Only w W (fun _ => False))
    (own2 : w2.ownsRow B 54 3 (.slice (some ⟨g, 0, none⟩) (l.length + 1) cap2) (l.length + 1) (flat3 l ++ evVals x)) (gr : W.grownBy w2 (Value.slice a l.length cap).ownBlock)
    (hat : (Value.slice a l.length cap).ownBlock = some g ∨ w.heap.size ≤ g) :
    HeapE (w2.setCell ⟨H, 0, none⟩ (.slice (some ⟨g, 0, none⟩) (l.length + 1) cap2)) B H (some ⟨g, 0, none⟩) cap2 (l ++ [x]) ∧ Only w (w2.setCell ⟨H, 0, none⟩ (.slice (some ⟨g, 0, none⟩) (l.length + 1) cap2)) (Touch H a cap l.length) ∧
      w2.cell? ⟨H, 0, none⟩ = some (.slice a l.length cap) ∧ w2.frozen? ⟨H, 0, none⟩ = false ∧ g ≠ H := by
  have hlt := hH.lt
  have hlen : (l ++ [x]).length = l.length + 1 := by simp
  have hgH : g ≠ H := by
    rcases hat with e | e
    · exact hH.apart g e
    · omega
  have hH2 : w2.heap[H]? = some (.cells #[.slice a l.length cap, lessE] 70 (0, 0)) := by
    rw [gr.block H (by have := hW.size; omega) (fun e => hH.apart H e.symm rfl), hW.block H hlt (fun c => c)]; exact hH.h
  have O : EvOwn w2 B (some ⟨g, 0, none⟩) cap2 (l ++ [x]) := by
    unfold EvOwn
    rw [hlen, flat3_append]
    exact own2
  have hOnly : Only w w2 (Touch H a cap l.length) := ⟨gr.os.trans hW.os, gr.tape.trans hW.tape, gr.output.trans hW.output, Nat.le_trans hW.size gr.size, fun k hk hn => by
    rw [gr.block k (by have := hW.size; omega) (fun e => hn (.inr e.symm)), hW.block k hk (fun c => c)]⟩
  refine ⟨⟨hH.hb, ?_, O.same (fun k e => heap_setCell_other _ _ _ _ (fun c => ?_)), fun k e => ?_⟩, hOnly.trans (Only.setCell w2 ⟨H, 0, none⟩ _ (fun k => k = H) rfl) (fun j _ e => .inl e), ?_, ?_, hgH⟩
  · rw [hlen]; exact heap_setCell_same _ _ _ _ _ _ hH2
  · have : g = k := Option.some.inj e
    exact hgH (this.trans c)
  · have : g = k := Option.some.inj e
    omega
  · simp [World.cell?, hH2]
  · simp [World.frozen?, hH2]

end Go.Proofs.Ytdalffmmkhcdaaa
