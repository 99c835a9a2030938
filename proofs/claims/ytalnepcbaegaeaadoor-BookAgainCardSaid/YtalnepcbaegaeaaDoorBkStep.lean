/- a book in a state: one push, one pop. -/
import Derived.Test.YtalnepcbaegaeaaDoorBkItemEq
import Derived.Test.YtalnepcbaegaeaaDoorItRow
import Derived.Maps.AppendAt
set_option linter.unusedVariables false
set_option linter.unusedSimpArgs false
namespace Go.Proofs.YtalnepcbaegaeaaDoor
open Go Go.RowKit SimPlain HeapPlain BookPlain

/-- the state of a book: what waits, how many were pushed, what was written -/
structure St where
  q : List Ev
  seq : Int
  T : List UInt8
def stepB (s : St) (e : Ev) : St :=
  if e.id = 7 then (match s.q with | [] => s | _ :: q => ⟨q, s.seq, s.T ++ lineB popB⟩)
  else if okE ⟨e.t, e.id, 0⟩ = true then (if s.q.length < 60 then ⟨ins ⟨e.t, e.id, s.seq + 1⟩ s.q, s.seq + 1, s.T ++ lineB (pushB e.t e.id)⟩ else s) else s
def toldB (l : List Ev) : St := l.foldl stepB ⟨[], 0, []⟩
/-- a book in a state -/
structure BookS (w : World) (B S : Nat) (F : Nat → Prop) (s : St) (i : Nat) : Prop where
  book : BookQ w B S F s.q s.seq s.T
  many : s.q.length ≤ 60
  lo : 0 ≤ s.seq
  hi : s.seq ≤ (i : Int)
  txt : s.T.length ≤ 100 * i
theorem BookS.push {w : World} {B S : Nat} {F : Nat → Prop} {s : St} {i : Nat} (h : BookS w B S F s i) (hi : i ≤ 1100000) (hB : B ≤ w.heap.size) (hB2 : 2 < B) (ht : Tab w) (key id : Int) (h7 : id ≠ 7) :
    Calls Tryd.prog 12 #[.pointer (some ⟨S, 0, none⟩), .agg #[.int .i64 key, .int .i64 id]] w fun e w' => ∃ code, e = .returned (errV 64 code) ∧ BookS w' B S (Grow F w w') (stepB s ⟨key, id, 0⟩) (i + 1) ∧ Only w w' F := by
  cases hok : okE ⟨key, id, 0⟩ with
  | false =>
    have e : stepB s ⟨key, id, 0⟩ = s := by unfold stepB; rw [if_neg h7, if_neg (by rw [hok]; decide)]
    rw [e]
    refine (BPush_bad S B F s.q s.seq s.T key id w hok).mono ?_
    rintro e w' ⟨rfl, b⟩
    exact ⟨1, by rw [errV_bad (by decide)], ⟨(h.book.only (only_of_below b (fun _ => False)) (fun _ _ c => c)).grow w hB, h.many, h.lo, by have := h.hi; omega, by have := h.txt; omega⟩, only_of_below b F⟩
  | true =>
    rcases Nat.lt_or_ge s.q.length 60 with h60 | h60
    · obtain ⟨t0, t1, d0, d1⟩ := okE_of hok
      have hpl := lineB_len (pushB key id) (pushB_len key id t0 t1 d0 d1)
      have e : stepB s ⟨key, id, 0⟩ = ⟨ins ⟨key, id, s.seq + 1⟩ s.q, s.seq + 1, s.T ++ lineB (pushB key id)⟩ := by unfold stepB; rw [if_neg h7, if_pos hok, if_pos h60]
      rw [e]
      refine (BPush_ok S B F s.q s.seq s.T key id w h.book hok h60 hB ht (by have := h.hi; have := h.txt; have := h.lo; omega) (by have := h.hi; have := h.txt; have := h.lo; omega) hB2).mono ?_
      rintro e w' ⟨rfl, hq, ho⟩
      exact ⟨0, by rw [errV_ok], ⟨hq, by rw [(ins_perm _ _).length_eq]; simp; omega, by have := h.lo; show 0 ≤ s.seq + 1; omega, by have := h.hi; show s.seq + 1 ≤ _; omega, by have := h.txt; rw [List.length_append]; omega⟩, ho⟩
    · have e : stepB s ⟨key, id, 0⟩ = s := by unfold stepB; rw [if_neg h7, if_pos hok, if_neg (by omega)]
      rw [e]
      refine (BPush_full S B F s.q s.seq s.T key id w h.book hok (by have := h.many; omega)).mono ?_
      rintro e w' ⟨rfl, b⟩
      exact ⟨4, by rw [errV_bad (by decide)], ⟨(h.book.only (only_of_below b (fun _ => False)) (fun _ _ c => c)).grow w hB, h.many, h.lo, by have := h.hi; omega, by have := h.txt; omega⟩, only_of_below b F⟩
theorem BookS.pop {w : World} {B S : Nat} {F : Nat → Prop} {s : St} {i : Nat} (h : BookS w B S F s i) (hi : i ≤ 1100000) (hB : B ≤ w.heap.size) (ht : Tab w) (key : Int) :
    Calls Tryd.prog 9 #[.pointer (some ⟨S, 0, none⟩)] w fun e w' => ∃ v, e = .returned v ∧ BookS w' B S (Grow F w w') (stepB s ⟨key, 7, 0⟩) (i + 1) ∧ Only w w' F := by
  obtain ⟨q, seq, T⟩ := s
  obtain ⟨hq, hm, hl, hh, hx⟩ := h
  simp only at hq hm hl hh hx
  cases q with
  | nil =>
    refine (BPop_none S B F seq T w hq).mono ?_
    rintro e w' ⟨rfl, b⟩
    exact ⟨_, rfl, ⟨(hq.only (only_of_below b (fun _ => False)) (fun _ _ c => c)).grow w hB, hm, hl, by show seq ≤ _; omega, by show T.length ≤ _; omega⟩, only_of_below b F⟩
  | cons x q =>
    refine (BPop_some S B F x q seq T w hq (by simp at hm; omega) hB ht (by omega)).mono ?_
    rintro e w' ⟨rfl, hQ, ho⟩
    have h2 := lineB_len popB (by decide)
    exact ⟨_, rfl, ⟨hQ, by show q.length ≤ 60; simp at hm; omega, hl, by show seq ≤ _; omega, by show (T ++ lineB popB).length ≤ _; rw [List.length_append]; omega⟩, ho⟩
theorem toldB_snoc (l : List Ev) (i : Nat) (h : i < l.length) : toldB (l.take (i + 1)) = stepB (toldB (l.take i)) (l.getD i e0) := by
  unfold toldB
  rw [List.take_add_one, List.foldl_append, List.getD_eq_getElem?_getD, List.getElem?_eq_getElem h]
  rfl
end Go.Proofs.YtalnepcbaegaeaaDoor
