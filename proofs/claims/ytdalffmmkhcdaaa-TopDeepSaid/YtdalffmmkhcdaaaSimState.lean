/- WALKS: a sim as the program holds it; New, Now, Many, Plan. -/
import Derived.Test.YtdalffmmkhcdaaaEvPush
import Derived.Test.YtdalffmmkhcdaaaSimQ
import Derived.Test.YtdalffmmkhcdaaaWithin
set_option linter.unusedVariables false
set_option linter.unusedSimpArgs false
namespace Go.Proofs.Ytdalffmmkhcdaaa
open Go Go.RowKit SimPlain HeapPlain

/-- a sim of the call's own: its own block S, its heap's H, its row's; F: all of them (and more) -/
structure SimG (w : World) (B S : Nat) (F : Nat → Prop) (H : Nat) (a : Option Addr) (cap : Nat) (l q : List Ev) (now seq : Int) : Prop where
  heap : HeapE w B H a cap l
  ord : Heap e0 Lt l
  perm : l.Perm q
  s : w.heap[S]? = some (.cells #[.pointer (some ⟨H, 0, none⟩), .int .i64 now, .int .i64 seq, .int .i64 q.length] 57 (0, 0))
  sH : S ≠ H
  sa : ∀ k, (Value.slice a l.length cap).ownBlock = some k → k ≠ S
  foot : ∀ k, Touch H a cap l.length k → F k
  fs : F S
  fb : ∀ k, F k → B ≤ k ∧ k < w.heap.size
  fine : Fine q now seq
  sorted : q.Pairwise Lt
def SimQ (w : World) (B S : Nat) (F : Nat → Prop) (q : List Ev) (now seq : Int) : Prop := ∃ H a cap l, SimG w B S F H a cap l q now seq
theorem SimG.lt {w : World} {B S : Nat} {F : Nat → Prop} {H : Nat} {a : Option Addr} {cap : Nat} {l q : List Ev} {now seq : Int} (h : SimG w B S F H a cap l q now seq) : S < w.heap.size := lt_of_block h.s
theorem SimG.c0 {w : World} {B S : Nat} {F : Nat → Prop} {H : Nat} {a : Option Addr} {cap : Nat} {l q : List Ev} {now seq : Int} (h : SimG w B S F H a cap l q now seq) : w.cell? ⟨S, 0, none⟩ = some (.pointer (some ⟨H, 0, none⟩)) := by have := h.s; simp [World.cell?, this]
theorem SimG.c1 {w : World} {B S : Nat} {F : Nat → Prop} {H : Nat} {a : Option Addr} {cap : Nat} {l q : List Ev} {now seq : Int} (h : SimG w B S F H a cap l q now seq) : w.cell? ⟨S, 1, none⟩ = some (.int .i64 now) := by have := h.s; simp [World.cell?, this]
theorem SimG.c2 {w : World} {B S : Nat} {F : Nat → Prop} {H : Nat} {a : Option Addr} {cap : Nat} {l q : List Ev} {now seq : Int} (h : SimG w B S F H a cap l q now seq) : w.cell? ⟨S, 2, none⟩ = some (.int .i64 seq) := by have := h.s; simp [World.cell?, this]
theorem SimG.c3 {w : World} {B S : Nat} {F : Nat → Prop} {H : Nat} {a : Option Addr} {cap : Nat} {l q : List Ev} {now seq : Int} (h : SimG w B S F H a cap l q now seq) : w.cell? ⟨S, 3, none⟩ = some (.int .i64 q.length) := by have := h.s; simp [World.cell?, this]
theorem SimG.free {w : World} {B S : Nat} {F : Nat → Prop} {H : Nat} {a : Option Addr} {cap : Nat} {l q : List Ev} {now seq : Int} (h : SimG w B S F H a cap l q now seq) (o : Nat) : w.frozen? ⟨S, o, none⟩ = false := by have := h.s; simp [World.frozen?, this]
theorem SimG.len {w : World} {B S : Nat} {F : Nat → Prop} {H : Nat} {a : Option Addr} {cap : Nat} {l q : List Ev} {now seq : Int} (h : SimG w B S F H a cap l q now seq) : l.length = q.length := h.perm.length_eq
theorem SimG.only {w w' : World} {B S : Nat} {F own : Nat → Prop} {H : Nat} {a : Option Addr} {cap : Nat} {l q : List Ev} {now seq : Int} (h : SimG w B S F H a cap l q now seq) (o : Only w w' own) (hF : ∀ k, F k → ¬ own k) : SimG w' B S F H a cap l q now seq :=
  ⟨h.heap.only (o.mono fun k _ c c' => hF k (h.foot k c') c), h.ord, h.perm, (o.block S h.lt (hF S h.fs)).trans h.s, h.sH, h.sa, h.foot, h.fs, fun k hk => ⟨(h.fb k hk).1, Nat.lt_of_lt_of_le (h.fb k hk).2 o.size⟩, h.fine, h.sorted⟩
theorem SimQ.only {w w' : World} {B S : Nat} {F own : Nat → Prop} {q : List Ev} {now seq : Int} (h : SimQ w B S F q now seq) (o : Only w w' own) (hF : ∀ k, F k → ¬ own k) : SimQ w' B S F q now seq := by
  obtain ⟨H, a, cap, l, hG⟩ := h
  exact ⟨H, a, cap, l, hG.only o hF⟩
theorem SimQ.fb {w : World} {B S : Nat} {F : Nat → Prop} {q : List Ev} {now seq : Int} (h : SimQ w B S F q now seq) : ∀ k, F k → B ≤ k ∧ k < w.heap.size := by
  obtain ⟨H, a, cap, l, hG⟩ := h
  exact hG.fb
theorem SimQ.fine {w : World} {B S : Nat} {F : Nat → Prop} {q : List Ev} {now seq : Int} (h : SimQ w B S F q now seq) : Fine q now seq := by
  obtain ⟨H, a, cap, l, hG⟩ := h
  exact hG.fine
theorem SimQ.sorted {w : World} {B S : Nat} {F : Nat → Prop} {q : List Ev} {now seq : Int} (h : SimQ w B S F q now seq) : q.Pairwise Lt := by
  obtain ⟨H, a, cap, l, hG⟩ := h
  exact hG.sorted
/-- the blocks that a call may have made a sim's, too -/
def Grow (F : Nat → Prop) (w w' : World) : Nat → Prop := fun k => F k ∨ (w.heap.size ≤ k ∧ k < w'.heap.size)
theorem Grow.trans {F : Nat → Prop} {a b c : World} (h1 : a.heap.size ≤ b.heap.size) (h2 : b.heap.size ≤ c.heap.size) : Grow (Grow F a b) b c = Grow F a c := by
  funext k
  unfold Grow
  apply propext
  constructor
  · rintro ((h | h) | h)
    · exact .inl h
    · exact .inr (by omega)
    · exact .inr (by omega)
  · rintro (h | h)
    · exact .inl (.inl h)
    · rcases Nat.lt_or_ge k b.heap.size with c | c
      · exact .inl (.inr (by omega))
      · exact .inr (by omega)
theorem SimG.grow {w : World} {B S : Nat} {F : Nat → Prop} {H : Nat} {a : Option Addr} {cap : Nat} {l q : List Ev} {now seq : Int} (h : SimG w B S F H a cap l q now seq) (w0 : World) (hB : B ≤ w0.heap.size) : SimG w B S (Grow F w0 w) H a cap l q now seq :=
  ⟨h.heap, h.ord, h.perm, h.s, h.sH, h.sa, fun k c => .inl (h.foot k c), .inl h.fs, fun k c => by
    rcases c with c | c
    · exact h.fb k c
    · omega, h.fine, h.sorted⟩

theorem Many_any (S B : Nat) (F : Nat → Prop) (q : List Ev) (now seq : Int) (w : World) (h : SimQ w B S F q now seq) :
    Calls Try.prog 9 #[.pointer (some ⟨S, 0, none⟩)] w fun e w' => e = .returned (.int .i64 q.length) ∧ w = w' := by
  obtain ⟨H, a, cap, l, hG⟩ := h
  have c1 := hG.c3
  go_enter Try.func9, Try.ntmps9
  go_wp2
  go_ret
  exact ⟨rfl, rfl⟩
theorem NewHeap_any (w : World) : Calls Try.prog 15 #[.func (.func 16) #[] #[], .slice none 0 0] w fun e w' => e = .returned (.pointer (some ⟨w.heap.size, 0, none⟩)) ∧ w' = w.alloc (.cells #[.slice none 0 0, .func (.func 16) #[] #[]] 70) := by
  go_enter Try.func15, Try.ntmps15
  go_wp2
  refine wp_loop_rounds 1 ?_
  rw [rounds_succ]
  go_wp2
  go_ret
  exact ⟨rfl, rfl⟩
def NewRes (w : World) (e : Ending) (w' : World) : Prop :=
  ∃ S, e = .returned (.pointer (some ⟨S, 0, none⟩)) ∧ SimQ w' w.heap.size S (fun k => w.heap.size ≤ k ∧ k < w'.heap.size) [] 0 0 ∧ Below w.heap.size w w'
theorem New_any (w : World) : Calls Try.prog 7 #[] w fun e w' => NewRes w e w' := by
  go_enter Try.func7, Try.ntmps7
  go_wp2_with fail
  refine (NewHeap_any _).mono ?_
  rintro e w1 ⟨rfl, hw1⟩
  have hs : w1.heap.size = w.heap.size + 1 := by rw [hw1]; simp
  have hH : w1.heap[w.heap.size]? = some (.cells #[.slice none 0 0, lessE] 70 (0, 0)) := by rw [hw1]; exact heap_alloc_new _ _
  have hb : Below w.heap.size w w1 := by rw [hw1]; exact (Below.refl _ _).alloc (Nat.le_refl _) _
  have HS := Lib.hid hs
  have HH := Lib.hid hH
  have HB := Lib.hid hb
  clear hw1 hs hH hb
  go_wp2
  go_ret
  refine ⟨w1.heap.size, rfl, ⟨w.heap.size, none, 0, [], ⟨⟨Nat.le_refl _, ?_, EvOwn.nil _ _, fun k e => by simp [Value.ownBlock] at e⟩, ?_, List.Perm.refl _, ?_, ?_, fun k e => by simp [Value.ownBlock] at e, ?_, ?_, ?_, Fine.zero, List.Pairwise.nil⟩⟩, ?_⟩
  · rw [Below.heap_alloc _ _ _ (by have := HS.out; omega)]; exact HH.out
  · intro k h0 hk; simp at hk
  · exact heap_alloc_new _ _
  · have := HS.out; omega
  · intro k c
    have hs := HS.out
    rcases c with c | c
    · subst c; simp; omega
    · simp [Value.ownBlock] at c
  · have hs := HS.out; simp; omega
  · exact fun k hk => hk
  · exact HB.out.alloc HB.out.size _
end Go.Proofs.Ytdalffmmkhcdaaa
