/- WALK: a push into a book in a state, whatever the item. -/
import Derived.Test.YtalnepcbaegaeaaDoorBkQPlain
set_option linter.unusedVariables false
set_option linter.unusedSimpArgs false
namespace Go.Proofs.YtalnepcbaegaeaaDoor
open Go Go.RowKit SimPlain HeapPlain BookPlain

def pushS (s : St) (e : Ev) : St :=
  if okE ⟨e.t, e.id, 0⟩ = true then (if s.q.length < 60 then ⟨ins ⟨e.t, e.id, s.seq + 1⟩ s.q, s.seq + 1, s.T ++ lineB (pushB e.t e.id)⟩ else s) else s
def pcode (s : St) (e : Ev) : Int := if okE ⟨e.t, e.id, 0⟩ = true then (if s.q.length < 60 then 0 else 4) else 1
theorem BookS.push_any {w : World} {B S : Nat} {F : Nat → Prop} {s : St} {i : Nat} (h : BookS w B S F s i) (hi : i ≤ 1100000) (hB : B ≤ w.heap.size) (hB2 : 2 < B) (ht : Tab w) (key id : Int) :
    Calls Tryd.prog 12 #[.pointer (some ⟨S, 0, none⟩), .agg #[.int .i64 key, .int .i64 id]] w fun e w' => e = .returned (errV 64 (pcode s ⟨key, id, 0⟩)) ∧ BookS w' B S (Grow F w w') (pushS s ⟨key, id, 0⟩) (i + 1) ∧ Only w w' F := by
  cases hok : okE ⟨key, id, 0⟩ with
  | false =>
    have e : pushS s ⟨key, id, 0⟩ = s := by unfold pushS; rw [if_neg (by rw [hok]; decide)]
    have ec : pcode s ⟨key, id, 0⟩ = 1 := by unfold pcode; rw [if_neg (by rw [hok]; decide)]
    rw [e, ec]
    refine (BPush_bad S B F s.q s.seq s.T key id w hok).mono ?_
    rintro e w' ⟨rfl, b⟩
    exact ⟨by rw [errV_bad (by decide)], ⟨(h.book.only (only_of_below b (fun _ => False)) (fun _ _ c => c)).grow w hB, h.many, h.lo, by have := h.hi; omega, by have := h.txt; omega⟩, only_of_below b F⟩
  | true =>
    rcases Nat.lt_or_ge s.q.length 60 with h60 | h60
    · obtain ⟨t0, t1, d0, d1⟩ := okE_of hok
      have hpl := lineB_len (pushB key id) (pushB_len key id t0 t1 d0 d1)
      have e : pushS s ⟨key, id, 0⟩ = ⟨ins ⟨key, id, s.seq + 1⟩ s.q, s.seq + 1, s.T ++ lineB (pushB key id)⟩ := by unfold pushS; rw [if_pos hok, if_pos h60]
      have ec : pcode s ⟨key, id, 0⟩ = 0 := by unfold pcode; rw [if_pos hok, if_pos h60]
      rw [e, ec]
      refine (BPush_ok S B F s.q s.seq s.T key id w h.book hok h60 hB ht (by have := h.hi; have := h.txt; have := h.lo; omega) (by have := h.hi; have := h.txt; have := h.lo; omega) hB2).mono ?_
      rintro e w' ⟨rfl, hq, ho⟩
      exact ⟨by rw [errV_ok], ⟨hq, by rw [(ins_perm _ _).length_eq]; simp; omega, by have := h.lo; show 0 ≤ s.seq + 1; omega, by have := h.hi; show s.seq + 1 ≤ _; omega, by have := h.txt; rw [List.length_append]; omega⟩, ho⟩
    · have e : pushS s ⟨key, id, 0⟩ = s := by unfold pushS; rw [if_pos hok, if_neg (by omega)]
      have ec : pcode s ⟨key, id, 0⟩ = 4 := by unfold pcode; rw [if_pos hok, if_neg (by omega)]
      rw [e, ec]
      refine (BPush_full S B F s.q s.seq s.T key id w h.book hok (by have := h.many; omega)).mono ?_
      rintro e w' ⟨rfl, b⟩
      exact ⟨by rw [errV_bad (by decide)], ⟨(h.book.only (only_of_below b (fun _ => False)) (fun _ _ c => c)).grow w hB, h.many, h.lo, by have := h.hi; omega, by have := h.txt; omega⟩, only_of_below b F⟩
end Go.Proofs.YtalnepcbaegaeaaDoor
