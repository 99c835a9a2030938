/- WALKS: a book as the program holds it; New, Many, Text. -/
import Derived.Test.YtfejlkgddnamoaaGreatDoorBkPush
import Derived.Test.YtfejlkgddnamoaaGreatDoorBkWrite
import Derived.Test.YtfejlkgddnamoaaGreatDoorSimQ
set_option linter.unusedVariables false
set_option linter.unusedSimpArgs false
namespace Go.Proofs.YtfejlkgddnamoaaGreatDoor
open Go Go.RowKit SimPlain HeapPlain BookPlain

/-- a book of the call's own: its own block S, its heap's H, its row's, its text's; F: all of them (and more) -/
structure BookG (w : World) (B S : Nat) (F : Nat → Prop) (H : Nat) (a : Option Addr) (cap : Nat) (l q : List Ev) (seq : Int) (p v : Value) (T : List UInt8) : Prop where
  heap : HeapE w B H a cap l
  ord : Heap e0 Lt l
  perm : l.Perm q
  sorted : q.Pairwise Lt
  top : ∀ e ∈ q, e.s ≤ seq
  s : BkAt w S (.pointer (some ⟨H, 0, none⟩)) (.int .i64 seq) p v
  pp : p = .pointer none ∨ p = .pointer (some ⟨S, 2, none⟩)
  txt : TxtAt w B v T
  tn : T = [] → v = .slice none 0 0
  sep : ∀ k, Touch H a cap l.length k → k ≠ S ∧ v.ownBlock ≠ some k
  foot : ∀ k, Touch H a cap l.length k → F k
  fs : F S
  fv : ∀ k, v.ownBlock = some k → F k
  fb : ∀ k, F k → B ≤ k ∧ k < w.heap.size
def BookQ (w : World) (B S : Nat) (F : Nat → Prop) (q : List Ev) (seq : Int) (T : List UInt8) : Prop := ∃ H a cap l p v, BookG w B S F H a cap l q seq p v T
theorem BookG.len {w : World} {B S : Nat} {F : Nat → Prop} {H : Nat} {a : Option Addr} {cap : Nat} {l q : List Ev} {seq : Int} {p v : Value} {T : List UInt8} (h : BookG w B S F H a cap l q seq p v T) : l.length = q.length := h.perm.length_eq
theorem BookG.only {w w' : World} {B S : Nat} {F own : Nat → Prop} {H : Nat} {a : Option Addr} {cap : Nat} {l q : List Ev} {seq : Int} {p v : Value} {T : List UInt8} (h : BookG w B S F H a cap l q seq p v T) (o : Only w w' own) (hF : ∀ k, F k → ¬ own k) : BookG w' B S F H a cap l q seq p v T :=
  ⟨h.heap.only (o.mono fun k _ c c' => hF k (h.foot k c') c), h.ord, h.perm, h.sorted, h.top, (o.block S h.s.lt (hF S h.fs)).trans h.s, h.pp, h.txt.same fun k hk => o.block k (h.txt.lt k hk).2 (hF k (h.fv k hk)), h.tn, h.sep, h.foot, h.fs, h.fv,
    fun k hk => ⟨(h.fb k hk).1, Nat.lt_of_lt_of_le (h.fb k hk).2 o.size⟩⟩
theorem BookQ.only {w w' : World} {B S : Nat} {F own : Nat → Prop} {q : List Ev} {seq : Int} {T : List UInt8} (h : BookQ w B S F q seq T) (o : Only w w' own) (hF : ∀ k, F k → ¬ own k) : BookQ w' B S F q seq T := by
  obtain ⟨H, a, cap, l, p, v, hG⟩ := h
  exact ⟨H, a, cap, l, p, v, hG.only o hF⟩
theorem BookQ.fb {w : World} {B S : Nat} {F : Nat → Prop} {q : List Ev} {seq : Int} {T : List UInt8} (h : BookQ w B S F q seq T) : ∀ k, F k → B ≤ k ∧ k < w.heap.size := by
  obtain ⟨H, a, cap, l, p, v, hG⟩ := h
  exact hG.fb
theorem BookQ.lt {w : World} {B S : Nat} {F : Nat → Prop} {q : List Ev} {seq : Int} {T : List UInt8} (h : BookQ w B S F q seq T) : B ≤ S ∧ S < w.heap.size ∧ F S := by
  obtain ⟨H, a, cap, l, p, v, hG⟩ := h
  have := hG.fb S hG.fs
  exact ⟨this.1, this.2, hG.fs⟩
/-- the blocks that a call may have made a book's, too -/
def Grow (F : Nat → Prop) (w w' : World) : Nat → Prop := fun k => F k ∨ (w.heap.size ≤ k ∧ k < w'.heap.size)
theorem Grow.trans {F : Nat → Prop} {a b c : World} (h1 : a.heap.size ≤ b.heap.size) (h2 : b.heap.size ≤ c.heap.size) : Grow (Grow F a b) b c = Grow F a c := by
  funext k
  unfold Grow
  apply propext
  constructor
  · rintro ((h | h) | h)
    · exact .inl h
    · exact .inr (by omega)
    · exact .inr (by omega)
  · rintro (h | h)
    · exact .inl (.inl h)
    · rcases Nat.lt_or_ge k b.heap.size with c | c
      · exact .inl (.inr (by omega))
      · exact .inr (by omega)
/-- a line written -/
theorem BookG.wrote {w w1 : World} {B S : Nat} {F : Nat → Prop} {H : Nat} {a : Option Addr} {cap : Nat} {l q : List Ev} {seq : Int} {p v v' : Value} {T X : List UInt8} (h : BookG w B S F H a cap l q seq p v T) (hB : B ≤ w.heap.size)
    (A : BkAt w1 S (.pointer (some ⟨H, 0, none⟩)) (.int .i64 seq) (.pointer (some ⟨S, 2, none⟩)) v') (tx : TxtAt w1 B v' (T ++ X)) (o : Only w w1 (fun k => k = S ∨ v.ownBlock = some k)) (fr : ∀ k, v'.ownBlock = some k → v.ownBlock = some k ∨ w.heap.size ≤ k) (hX : X ≠ []) :
    BookG w1 B S (Grow F w w1) H a cap l q seq (.pointer (some ⟨S, 2, none⟩)) v' (T ++ X) ∧ Only w w1 F := by
  refine ⟨⟨h.heap.only (o.mono fun k _ c c' => ?_), h.ord, h.perm, h.sorted, h.top, A, .inr rfl, tx, fun e => absurd (List.append_eq_nil_iff.1 e).2 hX, fun k hk => ⟨(h.sep k hk).1, fun c => ?_⟩, fun k hk => .inl (h.foot k hk), .inl h.fs, fun k hk => ?_, fun k hk => ?_⟩, o.mono fun k _ c => ?_⟩
  · rcases c with c | c
    · exact (h.sep k c').1 c
    · exact (h.sep k c').2 c
  · rcases fr k c with d | d
    · exact (h.sep k hk).2 d
    · have := (h.fb k (h.foot k hk)).2; omega
  · rcases fr k hk with d | d
    · exact .inl (h.fv k d)
    · exact .inr ⟨d, (tx.lt k hk).2⟩
  · rcases hk with hk | hk
    · exact ⟨(h.fb k hk).1, Nat.lt_of_lt_of_le (h.fb k hk).2 o.size⟩
    · exact ⟨by omega, hk.2⟩
  · rcases c with c | c
    · rw [c]; exact h.fs
    · exact h.fv k c

theorem BMany_any (S B : Nat) (F : Nat → Prop) (q : List Ev) (seq : Int) (T : List UInt8) (w : World) (h : BookQ w B S F q seq T) (hq : q.length ≤ 60) :
    Calls Tryz.prog 13 #[.pointer (some ⟨S, 0, none⟩)] w fun e w' => e = .returned (.int .i64 q.length) ∧ w = w' := by
  obtain ⟨H, a, cap, l, p, v, hG⟩ := h
  have c0 := hG.s.c0
  have hL := Lib.hid (Len_any l a cap H B w hG.heap (by rw [hG.len]; omega))
  rw [hG.len] at hL
  clear hG
  go_enter Tryz.func13, Tryz.ntmps13
  go_wp2_with fail
  refine hL.out.mono ?_
  rintro e w1 ⟨rfl, rfl⟩
  go_wp2
  go_ret
  exact ⟨rfl, rfl⟩
theorem BText_any (S B : Nat) (F : Nat → Prop) (q : List Ev) (seq : Int) (T : List UInt8) (w : World) (h : BookQ w B S F q seq T) :
    Calls Tryz.prog 10 #[.pointer (some ⟨S, 0, none⟩)] w fun e w' => e = .returned (.string ⟨T.toArray⟩) ∧ BookQ w' B S F q seq T ∧ Only w w' F := by
  obtain ⟨H, a, cap, l, p, v, hG⟩ := h
  have key : Hid (Calls Tryz.prog 25 #[.pointer (some ⟨S, 2, none⟩)] w fun e w' => e = .returned (.string ⟨T.toArray⟩) ∧ BookQ w' B S F q seq T ∧ Only w w' F) := Lib.hid <| by
    by_cases h0 : T = []
    · have hv := hG.tn h0
      subst h0
      subst hv
      refine (String_none S B _ _ p w hG.s).mono ?_
      rintro e w' ⟨rfl, n, rfl⟩
      have o : Only w (w.drewN n) (fun _ => False) := (Only.refl w _).drewN n
      exact ⟨rfl, ⟨H, a, cap, l, p, _, hG.only o (fun _ _ c => c)⟩, o.mono (fun _ _ c => c.elim)⟩
    · refine (String_some S B _ _ p v T w hG.s hG.txt h0).mono ?_
      rintro e w' ⟨rfl, A, tx, o⟩
      refine ⟨rfl, ⟨H, a, cap, l, p, v, hG.heap.only (o.mono fun k _ c c' => (hG.sep k c').2 c), hG.ord, hG.perm, hG.sorted, hG.top, A, hG.pp, tx, hG.tn, hG.sep, hG.foot, hG.fs, hG.fv, fun k hk => ⟨(hG.fb k hk).1, Nat.lt_of_lt_of_le (hG.fb k hk).2 o.size⟩⟩, o.mono fun k _ c => hG.fv k c⟩
  clear hG
  go_enter Tryz.func10, Tryz.ntmps10
  go_wp2_with fail
  refine key.out.mono ?_
  rintro e w1 ⟨rfl, hq, ho⟩
  have HQ := Lib.hid hq
  have HO := Lib.hid ho
  clear hq ho
  go_wp2
  go_ret
  exact ⟨rfl, HQ.out, HO.out⟩
theorem NewHeap_any (w : World) : Calls Tryz.prog 18 #[.func (.func 19) #[] #[], .slice none 0 0] w fun e w' => e = .returned (.pointer (some ⟨w.heap.size, 0, none⟩)) ∧ w' = w.alloc (.cells #[.slice none 0 0, .func (.func 19) #[] #[]] 83) := by
  go_enter Tryz.func18, Tryz.ntmps18
  go_wp2
  refine wp_loop_rounds 1 ?_
  rw [rounds_succ]
  go_wp2
  go_ret
  exact ⟨rfl, rfl⟩
def BNewRes (w : World) (e : Ending) (w' : World) : Prop :=
  ∃ S, e = .returned (.pointer (some ⟨S, 0, none⟩)) ∧ BookQ w' w.heap.size S (fun k => w.heap.size ≤ k ∧ k < w'.heap.size) [] 0 [] ∧ Below w.heap.size w w'
theorem BNew_any (w : World) : Calls Tryz.prog 8 #[] w fun e w' => BNewRes w e w' := by
  go_enter Tryz.func8, Tryz.ntmps8
  go_wp2_with fail
  refine (NewHeap_any _).mono ?_
  rintro e w1 ⟨rfl, hw1⟩
  have hs : w1.heap.size = w.heap.size + 1 := by rw [hw1]; simp
  have hH : w1.heap[w.heap.size]? = some (.cells #[.slice none 0 0, lessE] 83 (0, 0)) := by rw [hw1]; exact heap_alloc_new _ _
  have hb : Below w.heap.size w w1 := by rw [hw1]; exact (Below.refl _ _).alloc (Nat.le_refl _) _
  have HS := Lib.hid hs
  have HH := Lib.hid hH
  have HB := Lib.hid hb
  clear hw1 hs hH hb
  go_wp2
  go_ret
  refine ⟨w1.heap.size, rfl, ⟨w.heap.size, none, 0, [], .pointer none, .slice none 0 0, ⟨⟨Nat.le_refl _, ?_, EvOwn.nil _ _, fun k e => by simp [Value.ownBlock] at e⟩, ?_, List.Perm.refl _, List.Pairwise.nil, by simp, ?_, .inl rfl, World.ownsRowF_nil _ _ _ _, fun _ => rfl, ?_, ?_, ?_, fun k e => by simp [Value.ownBlock] at e, fun k h => h⟩⟩, ?_⟩
  · rw [Below.heap_alloc _ _ _ (by have := HS.out; omega)]; exact HH.out
  · intro k h0 hk; simp at hk
  · exact heap_alloc_new _ _
  · intro k c
    have hs := HS.out
    rcases c with c | c
    · exact ⟨by omega, by simp [Value.ownBlock]⟩
    · simp [Value.ownBlock] at c
  · intro k c
    have hs := HS.out
    rcases c with c | c
    · subst c; simp; omega
    · simp [Value.ownBlock] at c
  · have hs := HS.out; simp; omega
  · exact HB.out.alloc HB.out.size _
end Go.Proofs.YtfejlkgddnamoaaGreatDoor
