/- WALKS: a sim above a base; the closed fact; events that came in. -/
import Derived.Test.YtcdmbbnenljnlaaSimDrop
namespace Go.Proofs.Ytcdmbbnenljnlaa
open Go Go.RowKit SimPlain HeapPlain

/-- a sim made since w0 -/
def SimB (w0 w : World) (S : Nat) (q : List Ev) (now seq : Int) : Prop := ∃ F, SimQ w w0.heap.size S F q now seq ∧ Below w0.heap.size w0 w
theorem SimB.below {w0 w : World} {S : Nat} {q : List Ev} {now seq : Int} (h : SimB w0 w S q now seq) : Below w0.heap.size w0 w := by obtain ⟨F, _, b⟩ := h; exact b
theorem SimB.fine {w0 w : World} {S : Nat} {q : List Ev} {now seq : Int} (h : SimB w0 w S q now seq) : Fine q now seq := by obtain ⟨F, s, _⟩ := h; exact s.fine
theorem SimB.sorted {w0 w : World} {S : Nat} {q : List Ev} {now seq : Int} (h : SimB w0 w S q now seq) : q.Pairwise Lt := by obtain ⟨F, s, _⟩ := h; exact s.sorted
theorem SimB.still {w0 w w' : World} {S : Nat} {q : List Ev} {now seq : Int} (h : SimB w0 w S q now seq) (o : Only w w' (fun _ => False)) : SimB w0 w' S q now seq := by
  obtain ⟨F, s, b⟩ := h
  exact ⟨F, s.only o (fun _ _ c => c), b.trans (o.below b.size (fun _ c => c.elim))⟩
theorem SimB.alloc {w0 w : World} {S : Nat} {q : List Ev} {now seq : Int} (h : SimB w0 w S q now seq) (o : Obj) : SimB w0 (w.alloc o) S q now seq := h.still (Only.alloc w o _)
theorem SimB.drewN {w0 w : World} {S : Nat} {q : List Ev} {now seq : Int} (h : SimB w0 w S q now seq) (n : Nat) : SimB w0 (w.drewN n) S q now seq := h.still ((Only.refl w _).drewN n)
theorem NewB (w0 : World) (w : World) (hb : Below w0.heap.size w0 w) : Calls Try.prog 8 #[] w fun e w' => ∃ S, e = .returned (.pointer (some ⟨S, 0, none⟩)) ∧ SimB w0 w' S [] 0 0 := by
  refine (New_any w).mono ?_
  rintro e w' ⟨S, rfl, hs, b⟩
  have hsz := hb.size
  obtain ⟨H, a, cap, l, hG⟩ := hs
  refine ⟨S, rfl, _, ⟨H, a, cap, l, ⟨⟨by have := hG.heap.hb; omega, hG.heap.h, ?_, hG.heap.apart⟩, hG.ord, hG.perm, hG.s, hG.sH, hG.sa, hG.foot, hG.fs, fun k hk => by have := hG.fb k hk; omega, hG.fine, hG.sorted⟩⟩, hb.trans (b.mono hsz)⟩
  refine ⟨hG.heap.row.1, ?_⟩
  rcases hG.heap.row.2 with c | ⟨g, c, cur, h1, h2, h3⟩
  · exact .inl c
  · exact .inr ⟨g, c, cur, h1, by omega, h3⟩
theorem PlanB_no {w0 w : World} {S : Nat} {q : List Ev} {now seq t id : Int} (h : SimB w0 w S q now seq) (hc : planC q now t id ≠ 0) :
    Calls Try.prog 9 #[.pointer (some ⟨S, 0, none⟩), .agg #[.int .i64 t, .int .i64 id]] w fun e w' => e = .returned (.iface 56 (.int .i64 (planC q now t id))) ∧ SimB w0 w' S q now seq := by
  obtain ⟨F, s, b⟩ := h
  refine (Plan_no S _ F q now seq t id w s hc).mono ?_
  rintro e w' ⟨rfl, o⟩
  exact ⟨rfl, SimB.still ⟨F, s, b⟩ o⟩
theorem PlanB_yes {w0 w : World} {S : Nat} {q : List Ev} {now seq t id : Int} (h : SimB w0 w S q now seq) (hc : planC q now t id = 0) (hs : seq ≤ 1000000) :
    Calls Try.prog 9 #[.pointer (some ⟨S, 0, none⟩), .agg #[.int .i64 t, .int .i64 id]] w fun e w' => e = .returned .nilIface ∧ SimB w0 w' S (ins ⟨t, id, seq + 1⟩ q) now (seq + 1) := by
  obtain ⟨F, s, b⟩ := h
  refine (Plan_yes S _ F q now seq t id w b.size s hc hs).mono ?_
  rintro e w' ⟨rfl, s', o⟩
  exact ⟨rfl, _, s', b.trans (o.below b.size (fun k hk => (s.fb k hk).1))⟩
theorem NextB_none {w0 w : World} {S : Nat} {now seq : Int} (h : SimB w0 w S [] now seq) :
    Calls Try.prog 10 #[.pointer (some ⟨S, 0, none⟩)] w fun e w' => e = .returned (.tuple #[.agg #[.int .i64 0, .int .i64 0], .iface 56 (.int .i64 5)]) ∧ SimB w0 w' S [] now seq := by
  have h' := h
  obtain ⟨F, s, b⟩ := h
  refine (Next_none S _ F now seq w s).mono ?_
  rintro e w' ⟨rfl, o⟩
  exact ⟨rfl, h'.still o⟩
theorem NextB_some {w0 w : World} {S : Nat} {x : Ev} {q : List Ev} {now seq : Int} (h : SimB w0 w S (x :: q) now seq) :
    Calls Try.prog 10 #[.pointer (some ⟨S, 0, none⟩)] w fun e w' => e = .returned (.tuple #[.agg #[.int .i64 x.t, .int .i64 x.id], .nilIface]) ∧ SimB w0 w' S q x.t seq := by
  obtain ⟨F, s, b⟩ := h
  refine (Next_some S _ F x q now seq w s).mono ?_
  rintro e w' ⟨rfl, s', o⟩
  exact ⟨rfl, F, s', b.trans (o.below b.size (fun k hk => (s.fb k hk).1))⟩
theorem ManyB {w0 w : World} {S : Nat} {q : List Ev} {now seq : Int} (h : SimB w0 w S q now seq) : Calls Try.prog 11 #[.pointer (some ⟨S, 0, none⟩)] w fun e w' => e = .returned (.int .i64 q.length) ∧ w = w' := by
  obtain ⟨F, s, b⟩ := h
  exact Many_any S _ F q now seq w s
theorem NowB {w0 w : World} {S : Nat} {q : List Ev} {now seq : Int} (h : SimB w0 w S q now seq) : Calls Try.prog 13 #[.pointer (some ⟨S, 0, none⟩)] w fun e w' => e = .returned (.int .i64 now) ∧ w = w' := by
  obtain ⟨F, s, b⟩ := h
  exact Now_any S _ F q now seq w s

/-! ### the closed fact -/
set_option maxRecDepth 100000 in
set_option maxHeartbeats 2000000 in
theorem simFact_any (w : World) : Calls Try.prog 7 #[] w fun e w' => e = .returned (.bool true) ∧ Below w.heap.size w w' := by
  go_enter Try.func7, Try.ntmps7
  go_wp2_with fail
  refine (NewB w w (Below.refl _ _)).mono ?_
  rintro e w1 ⟨S, rfl, h1⟩
  have H1 := Lib.hid h1
  clear h1
  go_wp2_with fail
  refine (PlanB_yes (t := 5) (id := 1) H1.out (by decide) (by decide)).mono ?_
  rintro e w2 ⟨rfl, h2⟩
  have h2 : SimB w w2 S [⟨5, 1, 1⟩] 0 1 := h2
  have H2 := Lib.hid h2
  clear h2
  go_wp2_with fail
  refine (PlanB_yes (t := 3) (id := 2) H2.out (by decide) (by decide)).mono ?_
  rintro e w3 ⟨rfl, h3⟩
  have h3 : SimB w w3 S [⟨3, 2, 2⟩, ⟨5, 1, 1⟩] 0 2 := h3
  have H3 := Lib.hid h3
  clear h3
  go_wp2_with fail
  refine (NextB_some H3.out).mono ?_
  rintro e w4 ⟨rfl, h4⟩
  have H4 := Lib.hid h4
  clear h4
  simp only
  go_upto_region 5 with fail
  have h5 := H4.out.alloc (.cells #[.int .i64 3, .int .i64 2] 31)
  have hb := heap_alloc_new w4 (.cells #[.int .i64 3, .int .i64 2] 31)
  generalize w4.alloc (.cells #[.int .i64 3, .int .i64 2] 31) = w5 at h5 hb ⊢
  generalize w4.heap.size = bx at *
  have y0 : w5.cell? ⟨bx, 0, none⟩ = some (.int .i64 3) := by simp only [World.cell?, hb]; rfl
  have y1 : w5.cell? ⟨bx, 1, none⟩ = some (.int .i64 2) := by simp only [World.cell?, hb]; rfl
  have H5 := Lib.hid h5
  clear h5 hb
  go_wp2_with fail
  refine (NowB H5.out).mono ?_
  rintro e w6 ⟨rfl, rfl⟩
  go_wp2
  go_ret
  exact ⟨rfl, H5.out.below⟩

/-! ### events that came in -/
def EvA (w : World) (a : Option Addr) (l : List Ev) : Prop := l = [] ∨ ∃ b off, a = some ⟨b, off, none⟩ ∧ b < w.heap.size ∧ ∀ i, i < l.length → w.cell? ⟨b, off + i * 2, none⟩ = some (.int .i64 (l.getD i e0).t) ∧ w.cell? ⟨b, off + i * 2 + 1, none⟩ = some (.int .i64 (l.getD i e0).id)
theorem EvA.below {w w' : World} {a : Option Addr} {l : List Ev} (h : EvA w a l) (hb : Below w.heap.size w w') : EvA w' a l := by
  rcases h with h | ⟨b, off, rfl, hl, hc⟩
  · exact .inl h
  · refine .inr ⟨b, off, rfl, Nat.lt_of_lt_of_le hl hb.size, fun i hi => ?_⟩
    obtain ⟨c1, c2⟩ := hc i hi
    exact ⟨(hb.cell (p := ⟨b, off + i * 2, none⟩) hl).trans c1, (hb.cell (p := ⟨b, off + i * 2 + 1, none⟩) hl).trans c2⟩
theorem EvA.open {w : World} {a : Option Addr} {l : List Ev} (h : EvA w a l) (h0 : 0 < l.length) : ∃ b off, a = some ⟨b, off, none⟩ ∧ b < w.heap.size ∧ ∀ i, i < l.length → w.cell? ⟨b, off + i * 2, none⟩ = some (.int .i64 (l.getD i e0).t) ∧ w.cell? ⟨b, off + i * 2 + 1, none⟩ = some (.int .i64 (l.getD i e0).id) := by
  rcases h with h | h
  · rw [h] at h0; simp at h0
  · exact h
end Go.Proofs.Ytcdmbbnenljnlaa
