/- WALK: desk.ways: what each word does; and how a word is looked up. -/
import Derived.Test.YtfejlkgddnamoaaGreatDoorBase
import Derived.Test.YtfejlkgddnamoaaGreatDoorRows
import Derived.MapKept
import Derived.Laws.EntriesVeiled
set_option linter.unusedVariables false
set_option linter.unusedSimpArgs false
namespace Go.Proofs.YtfejlkgddnamoaaGreatDoor
open Go Go.RowKit

def wayV (many : Int) (f : FuncId) : Value := .agg #[.int .i64 many, .func (.func f) #[] #[]]
def wayE (s : ByteArray) (many : Int) (f : FuncId) (born : Nat) : MapEntry := { key := .string s, val := wayV many f, born := born }
def wPush : ByteArray := ⟨#[112, 117, 115, 104]⟩
def wPop : ByteArray := ⟨#[112, 111, 112]⟩
def wMany : ByteArray := ⟨#[109, 97, 110, 121]⟩
def wCrash : ByteArray := ⟨#[99, 114, 97, 115, 104]⟩
def waysE : Array MapEntry := #[wayE wPush 2 77 0, wayE wPop 0 78 1, wayE wMany 0 79 2, wayE wCrash 1 80 3]

section
variable {P : Program}
def mput (w : World) (r : Nat) (es : Array MapEntry) (clock : Nat) : World := { w with heap := w.heap.setIfInBounds r (.map es clock) }
theorem mput_at {w : World} {r : Nat} {es0 : Array MapEntry} {c0 : Nat} (hb : w.heap[r]? = some (.map es0 c0)) (es : Array MapEntry) (c : Nat) : (mput w r es c).heap[r]? = some (.map es c) := by
  have := lt_of_block hb
  simp [mput, this]
theorem mput_other (w : World) (r : Nat) (es : Array MapEntry) (c : Nat) (j : Nat) (h : j ≠ r) : (mput w r es c).heap[j]? = w.heap[j]? := by simp [mput, Array.getElem?_setIfInBounds, Ne.symm h]
theorem run_put {w : World} (mty kt et : TypeId) (r clock : Nat) (es : Array MapEntry) (s : ByteArray) (val : Value) (hm : P.underlying mty = some (.map kt et)) (hk : P.underlying kt = some .string) (hb : w.heap[r]? = some (.map es clock))
    (hf : Instr.findNow .string (.string s) es.toList 0 = some none) :
    (Instr.mapUpdate mty (.map (some r)) (.string s) val).run P w = .ok () (mput w r (es.push { key := .string s, val := val, born := clock }) (clock + 1)) := by
  have hc : (Instr.checkKey false 10000 kt (.string s)).run P w = .ok () w := MapKept.run_checkKey (k := .string s) hk (by simp [MapKept.IsKey]) false 9999
  simp [Instr.mapUpdate, run_underlying hm, MapKept.run_getObj_map hb, hc, MapKept.run_findKey hk hf, MapKept.run_setObj_map _ hb, Result.andThen, mput]
theorem run_look {w : World} (mty kt et : TypeId) (r clock : Nat) (es : Array MapEntry) (s : ByteArray) (z : Value) (hm : P.underlying mty = some (.map kt et)) (hk : P.underlying kt = some .string) (hb : w.heap[r]? = some (.map es clock)) (hz : (zeroValue et).run P w = .ok z w)
    (f : Option (Nat × Value)) (hf : Instr.findNow .string (.string s) es.toList 0 = some f) :
    (Instr.lookup mty (.map (some r)) (.string s) true).run P w = .ok (match f with | some (_, v) => .tuple #[v, .bool true] | none => .tuple #[z, .bool false]) w := by
  have hc : (Instr.checkKey es.isEmpty 10000 kt (.string s)).run P w = .ok () w := MapKept.run_checkKey (k := .string s) hk (by simp [MapKept.IsKey]) _ 9999
  cases f with
  | none => simp [Instr.lookup, run_underlying hm, MapKept.run_getObj_map hb, hc, MapKept.run_findKey hk hf, hz, Result.andThen]
  | some x => simp [Instr.lookup, run_underlying hm, MapKept.run_getObj_map hb, hc, MapKept.run_findKey hk hf, Result.andThen]
end
/-- which way a word is: the way, where it stands -/
def wayOf (s : ByteArray) : Option (Int × FuncId) :=
  if s = wPush then some (2, 77) else if s = wPop then some (0, 78)
  else if s = wMany then some (0, 79) else if s = wCrash then some (1, 80) else none
theorem find_ways (s : ByteArray) : ∃ f, Instr.findNow .string (.string s) waysE.toList 0 = some f ∧ (match f with
    | some (_, v) => ∃ m k, wayOf s = some (m, k) ∧ v = wayV m k
    | none => wayOf s = none) := by
  have hb : ∀ t : ByteArray, (s == t) = decide (s = t) := fun t => by
    obtain ⟨a⟩ := s
    obtain ⟨c⟩ := t
    show (a == c) = decide (ByteArray.mk a = ByteArray.mk c)
    by_cases h : a = c
    · rw [h, decide_eq_true rfl]; exact beq_iff_eq.2 rfl
    · rw [decide_eq_false (fun e => h (ByteArray.mk.inj e)), beq_eq_false_iff_ne]; exact h
  show ∃ f, Instr.findNow .string (.string s) [wayE wPush 2 _ 0, wayE wPop 0 _ 1, wayE wMany 0 _ 2, wayE wCrash 1 _ 3] 0 = some f ∧ _
  unfold wayOf
  have e1 : Instr.sameNow .string (.string s) (.string wPush) = some (decide (s = wPush)) := by rw [← hb]; rfl
  have e2 : Instr.sameNow .string (.string s) (.string wPop) = some (decide (s = wPop)) := by rw [← hb]; rfl
  have e3 : Instr.sameNow .string (.string s) (.string wMany) = some (decide (s = wMany)) := by rw [← hb]; rfl
  have e4 : Instr.sameNow .string (.string s) (.string wCrash) = some (decide (s = wCrash)) := by rw [← hb]; rfl
  simp only [Instr.findNow, wayE, e1, e2, e3, e4]
  by_cases h1 : s = wPush
  · refine ⟨some (0, wayV 2 _), by rw [decide_eq_true h1], 2, _, by rw [if_pos h1], rfl⟩
  · rw [decide_eq_false h1]
    by_cases h2 : s = wPop
    · refine ⟨some (1, wayV 0 _), by rw [decide_eq_true h2], 0, _, by rw [if_neg h1, if_pos h2], rfl⟩
    · rw [decide_eq_false h2]
      by_cases h3 : s = wMany
      · refine ⟨some (2, wayV 0 _), by rw [decide_eq_true h3], 0, _, by rw [if_neg h1, if_neg h2, if_pos h3], rfl⟩
      · rw [decide_eq_false h3]
        by_cases h4 : s = wCrash
        · refine ⟨some (3, wayV 1 _), by rw [decide_eq_true h4], 1, _, by rw [if_neg h1, if_neg h2, if_neg h3, if_pos h4], rfl⟩
        · refine ⟨none, by rw [decide_eq_false h4], by rw [if_neg h1, if_neg h2, if_neg h3, if_neg h4]⟩
theorem ways_any (w : World) : Calls Tryz.prog 52 #[] w fun e w' => e = .returned (.map (some w.heap.size)) ∧ w'.heap[w.heap.size]? = some (.map waysE 4) ∧ w'.heap.size = w.heap.size + 1 ∧ Below w.heap.size w w' := by
  have h0 : (w.alloc (.map #[] 0)).heap[w.heap.size]? = some (.map #[] 0) := heap_alloc_new _ _
  obtain ⟨b, hb⟩ : ∃ b, b = w.heap.size := ⟨_, rfl⟩
  rw [← hb] at h0
  have put : ∀ (W : World) (es : Array MapEntry) (c : Nat) (s : ByteArray) (m : Int) (f : FuncId), W.heap[b]? = some (.map es c) → Instr.findNow .string (.string s) es.toList 0 = some none →
      (Instr.mapUpdate 101 (.map (some b)) (.string s) (wayV m f)).run Tryz.prog W = .ok () (mput W b (es.push (wayE s m f c)) (c + 1)) := fun W es c s m f h1 h2 =>
    run_put _ 9 99 b c es s (wayV m f) Tryz.underlying101 Tryz.underlying9 h1 h2
  have p1 := put _ _ _ wPush 2 77 h0 (by rfl)
  have a1 := mput_at h0 (#[].push (wayE wPush 2 77 0)) (0 + 1)
  have s1 : (mput (w.alloc (.map #[] 0)) b (#[].push (wayE wPush 2 77 0)) (0 + 1)).heap.size = w.heap.size + 1 := by simp [mput]
  have l1 : Below w.heap.size w (mput (w.alloc (.map #[] 0)) b (#[].push (wayE wPush 2 77 0)) (0 + 1)) :=
    ⟨rfl, rfl, rfl, by rw [s1]; omega, fun k hk => by rw [mput_other _ _ _ _ _ (by omega)]; exact Below.heap_alloc _ _ _ hk⟩
  generalize mput (w.alloc (.map #[] 0)) b (#[].push (wayE wPush 2 77 0)) (0 + 1) = W1 at *
  have p2 := put _ _ _ wPop 0 78 a1 (by rfl)
  have a2 := mput_at a1 ((#[].push (wayE wPush 2 77 0)).push (wayE wPop 0 78 (0 + 1))) (0 + 1 + 1)
  have s2 : (mput W1 b ((#[].push (wayE wPush 2 77 0)).push (wayE wPop 0 78 (0 + 1))) (0 + 1 + 1)).heap.size = w.heap.size + 1 := by rw [← s1]; simp [mput]
  have l2 : Below w.heap.size w (mput W1 b ((#[].push (wayE wPush 2 77 0)).push (wayE wPop 0 78 (0 + 1))) (0 + 1 + 1)) :=
    ⟨l1.os, l1.tape, l1.output, by rw [s2]; omega, fun k hk => by rw [mput_other _ _ _ _ _ (by omega)]; exact l1.block k hk⟩
  generalize mput W1 b ((#[].push (wayE wPush 2 77 0)).push (wayE wPop 0 78 (0 + 1))) (0 + 1 + 1) = W2 at *
  have p3 := put _ _ _ wMany 0 79 a2 (by rfl)
  have a3 := mput_at a2 (((#[].push (wayE wPush 2 77 0)).push (wayE wPop 0 78 (0 + 1))).push (wayE wMany 0 79 (0 + 1 + 1))) (0 + 1 + 1 + 1)
  have s3 : (mput W2 b (((#[].push (wayE wPush 2 77 0)).push (wayE wPop 0 78 (0 + 1))).push (wayE wMany 0 79 (0 + 1 + 1))) (0 + 1 + 1 + 1)).heap.size = w.heap.size + 1 := by rw [← s2]; simp [mput]
  have l3 : Below w.heap.size w (mput W2 b (((#[].push (wayE wPush 2 77 0)).push (wayE wPop 0 78 (0 + 1))).push (wayE wMany 0 79 (0 + 1 + 1))) (0 + 1 + 1 + 1)) :=
    ⟨l2.os, l2.tape, l2.output, by rw [s3]; omega, fun k hk => by rw [mput_other _ _ _ _ _ (by omega)]; exact l2.block k hk⟩
  generalize mput W2 b (((#[].push (wayE wPush 2 77 0)).push (wayE wPop 0 78 (0 + 1))).push (wayE wMany 0 79 (0 + 1 + 1))) (0 + 1 + 1 + 1) = W3 at *
  have p4 := put _ _ _ wCrash 1 80 a3 (by rfl)
  have a4 := mput_at a3 ((((#[].push (wayE wPush 2 77 0)).push (wayE wPop 0 78 (0 + 1))).push (wayE wMany 0 79 (0 + 1 + 1))).push (wayE wCrash 1 80 (0 + 1 + 1 + 1))) (0 + 1 + 1 + 1 + 1)
  have s4 : (mput W3 b ((((#[].push (wayE wPush 2 77 0)).push (wayE wPop 0 78 (0 + 1))).push (wayE wMany 0 79 (0 + 1 + 1))).push (wayE wCrash 1 80 (0 + 1 + 1 + 1))) (0 + 1 + 1 + 1 + 1)).heap.size = w.heap.size + 1 := by rw [← s3]; simp [mput]
  have l4 : Below w.heap.size w (mput W3 b ((((#[].push (wayE wPush 2 77 0)).push (wayE wPop 0 78 (0 + 1))).push (wayE wMany 0 79 (0 + 1 + 1))).push (wayE wCrash 1 80 (0 + 1 + 1 + 1))) (0 + 1 + 1 + 1 + 1)) :=
    ⟨l3.os, l3.tape, l3.output, by rw [s4]; omega, fun k hk => by rw [mput_other _ _ _ _ _ (by omega)]; exact l3.block k hk⟩
  generalize mput W3 b ((((#[].push (wayE wPush 2 77 0)).push (wayE wPop 0 78 (0 + 1))).push (wayE wMany 0 79 (0 + 1 + 1))).push (wayE wCrash 1 80 (0 + 1 + 1 + 1))) (0 + 1 + 1 + 1 + 1) = W4 at *
  have HA := Lib.hid (show W4.heap[b]? = some (.map waysE 4) from a4)
  have HS := Lib.hid s4
  have HL := Lib.hid l4
  have HB := Lib.hid hb
  rw [hb] at p1 p2 p3 p4
  have hmm := @run_makeMap Tryz.prog
  unfold wPush at p1
  unfold wPop at p2
  unfold wMany at p3
  unfold wCrash at p4
  unfold wayV at p1 p2 p3 p4
  clear h0 put a1 s1 l1 a2 s2 l2 a3 s3 l3 a4 s4 l4 hb
  go_enter Tryz.func52, Tryz.ntmps52
  go_wp2
  go_ret
  exact ⟨rfl, by rw [← HB.out]; exact HA.out, HS.out, HL.out⟩
end Go.Proofs.YtfejlkgddnamoaaGreatDoor
