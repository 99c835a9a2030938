/- WALKS: a sim above a base, at TopDeep. -/
import Derived.Test.YtdalffmmkhcdaaaSimNext
set_option linter.unusedVariables false
set_option linter.unusedSimpArgs false
namespace Go.Proofs.Ytdalffmmkhcdaaa
open Go Go.RowKit SimPlain HeapPlain

/-- a sim made since w0 -/
def SimB (w0 w : World) (S : Nat) (q : List Ev) (now seq : Int) : Prop := ∃ F, SimQ w w0.heap.size S F q now seq ∧ Below w0.heap.size w0 w
theorem SimB.below {w0 w : World} {S : Nat} {q : List Ev} {now seq : Int} (h : SimB w0 w S q now seq) : Below w0.heap.size w0 w := by obtain ⟨F, _, b⟩ := h; exact b
theorem SimB.fine {w0 w : World} {S : Nat} {q : List Ev} {now seq : Int} (h : SimB w0 w S q now seq) : Fine q now seq := by obtain ⟨F, s, _⟩ := h; exact s.fine
theorem SimB.sorted {w0 w : World} {S : Nat} {q : List Ev} {now seq : Int} (h : SimB w0 w S q now seq) : q.Pairwise Lt := by obtain ⟨F, s, _⟩ := h; exact s.sorted
theorem SimB.still {w0 w w' : World} {S : Nat} {q : List Ev} {now seq : Int} (h : SimB w0 w S q now seq) (o : Only w w' (fun _ => False)) : SimB w0 w' S q now seq := by
  obtain ⟨F, s, b⟩ := h
  exact ⟨F, s.only o (fun _ _ c => c), b.trans (o.below b.size (fun _ c => c.elim))⟩
theorem SimB.alloc {w0 w : World} {S : Nat} {q : List Ev} {now seq : Int} (h : SimB w0 w S q now seq) (o : Obj) : SimB w0 (w.alloc o) S q now seq := h.still (Only.alloc w o _)
theorem SimB.drewN {w0 w : World} {S : Nat} {q : List Ev} {now seq : Int} (h : SimB w0 w S q now seq) (n : Nat) : SimB w0 (w.drewN n) S q now seq := h.still ((Only.refl w _).drewN n)
theorem NewB (w0 : World) (w : World) (hb : Below w0.heap.size w0 w) : Calls Try.prog 7 #[] w fun e w' => ∃ S, e = .returned (.pointer (some ⟨S, 0, none⟩)) ∧ SimB w0 w' S [] 0 0 := by
  refine (New_any w).mono ?_
  rintro e w' ⟨S, rfl, hs, b⟩
  have hsz := hb.size
  obtain ⟨H, a, cap, l, hG⟩ := hs
  refine ⟨S, rfl, _, ⟨H, a, cap, l, ⟨⟨by have := hG.heap.hb; omega, hG.heap.h, ?_, hG.heap.apart⟩, hG.ord, hG.perm, hG.s, hG.sH, hG.sa, hG.foot, hG.fs, fun k hk => by have := hG.fb k hk; omega, hG.fine, hG.sorted⟩⟩, hb.trans (b.mono hsz)⟩
  refine ⟨hG.heap.row.1, ?_⟩
  rcases hG.heap.row.2 with c | ⟨g, c, cur, h1, h2, h3⟩
  · exact .inl c
  · exact .inr ⟨g, c, cur, h1, by omega, h3⟩
theorem PlanB_no {w0 w : World} {S : Nat} {q : List Ev} {now seq t id : Int} (h : SimB w0 w S q now seq) (hc : planC q now t id ≠ 0) :
    Calls Try.prog 8 #[.pointer (some ⟨S, 0, none⟩), .agg #[.int .i64 t, .int .i64 id]] w fun e w' => e = .returned (.iface 59 (.int .i64 (planC q now t id))) ∧ SimB w0 w' S q now seq := by
  obtain ⟨F, s, b⟩ := h
  refine (Plan_no S _ F q now seq t id w s hc).mono ?_
  rintro e w' ⟨rfl, o⟩
  exact ⟨rfl, SimB.still ⟨F, s, b⟩ o⟩
theorem PlanB_yes {w0 w : World} {S : Nat} {q : List Ev} {now seq t id : Int} (h : SimB w0 w S q now seq) (hc : planC q now t id = 0) (hs : seq ≤ 1000000) :
    Calls Try.prog 8 #[.pointer (some ⟨S, 0, none⟩), .agg #[.int .i64 t, .int .i64 id]] w fun e w' => e = .returned .nilIface ∧ SimB w0 w' S (ins ⟨t, id, seq + 1⟩ q) now (seq + 1) := by
  obtain ⟨F, s, b⟩ := h
  refine (Plan_yes S _ F q now seq t id w b.size s hc hs).mono ?_
  rintro e w' ⟨rfl, s', o⟩
  exact ⟨rfl, _, s', b.trans (o.below b.size (fun k hk => (s.fb k hk).1))⟩
theorem NextB_none {w0 w : World} {S : Nat} {now seq : Int} (h : SimB w0 w S [] now seq) :
    Calls Try.prog 10 #[.pointer (some ⟨S, 0, none⟩)] w fun e w' => e = .returned (.tuple #[.agg #[.int .i64 0, .int .i64 0], .iface 59 (.int .i64 5)]) ∧ SimB w0 w' S [] now seq := by
  have h' := h
  obtain ⟨F, s, b⟩ := h
  refine (Next_none S _ F now seq w s).mono ?_
  rintro e w' ⟨rfl, o⟩
  exact ⟨rfl, h'.still o⟩
theorem NextB_some {w0 w : World} {S : Nat} {x : Ev} {q : List Ev} {now seq : Int} (h : SimB w0 w S (x :: q) now seq) :
    Calls Try.prog 10 #[.pointer (some ⟨S, 0, none⟩)] w fun e w' => e = .returned (.tuple #[.agg #[.int .i64 x.t, .int .i64 x.id], .nilIface]) ∧ SimB w0 w' S q x.t seq := by
  obtain ⟨F, s, b⟩ := h
  refine (Next_some S _ F x q now seq w s).mono ?_
  rintro e w' ⟨rfl, s', o⟩
  exact ⟨rfl, F, s', b.trans (o.below b.size (fun k hk => (s.fb k hk).1))⟩
theorem ManyB {w0 w : World} {S : Nat} {q : List Ev} {now seq : Int} (h : SimB w0 w S q now seq) : Calls Try.prog 9 #[.pointer (some ⟨S, 0, none⟩)] w fun e w' => e = .returned (.int .i64 q.length) ∧ w = w' := by
  obtain ⟨F, s, b⟩ := h
  exact Many_any S _ F q now seq w s
end Go.Proofs.Ytdalffmmkhcdaaa
