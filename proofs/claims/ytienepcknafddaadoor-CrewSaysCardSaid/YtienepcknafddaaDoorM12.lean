/- PLAIN LAW of the model: a lone call in a fragment of the language that comes back on every tape: so it does step by step, whoever turns the tape between the steps. The tapes of a bad way are glued to one (no program text in sight). · PLAIN LAW of the model: a goroutine that runs a stretch of code in company: its ghost runs it alone (no program text in sight). · PLAIN LAW of the model: the operation that is stepped by hand, and what the order of a region tells of it (no program text in sight). · PLAIN LAW of the model: the last steps of a stretch that is one region (no program text in sight). · WALKS: the functions that crew's goroutines and CrewSays call are let by. · WALK: crew.Sort's worker: its region, but for the last store. · PLAIN LAW: a measure for a machine of many goroutines: a tree for each, the starter's first (no program text in sight). -/
import Derived.Test.YtienepcknafddaaDoorM11
import Derived.Test.YtienepcknafddaaDoorM1
import Derived.Test.YtienepcknafddaaDoorM5
import Derived.Conc.Beside
set_option linter.unusedVariables false
set_option linter.unusedSimpArgs false
section
namespace Co
open Go Go.Conc
variable {L : List FuncId} {P : Program} {ρ : Ren} {Rel : Array Value → World → Prop}

def on (w : World) (T : Tape) (d : Nat) : World := { w with tape := T, drawn := d }
structure St where
  fr : Frame
  cs : List Frame
  w : World
/-- a step, the tape having been turned -/
def Good1 (P : Program) (s : St) (T : Tape) (d : Nat) (s1 : St) : Prop := ∃ es, stepG P true (G s.fr (s.cs ++ [c0])) (on s.w T d) = .go (G s1.fr (s1.cs ++ [c0])) s1.w es
def Up (s : St) : Prop := s.cs = [] → s.fr.todo ≠ []
/-- the stretch has come to its end -/
def Back (Rel : Array Value → World → Prop) (s : St) : Prop := s.cs = [] ∧ s.fr.todo = [] ∧ s.fr.mode = .run ∧ Rel s.fr.tmps s.w
/-- step by step to the end, whoever turns the tape -/
inductive Fin (P : Program) (Rel : Array Value → World → Prop) : St → Prop
  | done {s : St} : Back Rel s → Fin P Rel s
  | step {s : St} (nx : Tape → Nat → St) : Up s → (∀ T d, Good1 P s T d (nx T d)) → (∀ T d, Fin P Rel (nx T d)) → Fin P Rel s
theorem Good1.det {s s1 s2 : St} {T : Tape} {d : Nat} (h : Good1 P s T d s1) (k : Good1 P s T d s2) : s1 = s2 := by
  obtain ⟨es, h⟩ := h
  obtain ⟨es', k⟩ := k
  rw [h] at k
  simp only [GStep.go.injEq, G, Goroutine.mk.injEq, List.append_cancel_right_eq] at k
  obtain ⟨fr, cs, w⟩ := s1
  obtain ⟨fr', cs', w'⟩ := s2
  simp only [St.mk.injEq]
  exact ⟨k.1.1, k.1.2.1, k.2.1⟩
open Classical in
noncomputable def adv (P : Program) (Rel : Array Value → World → Prop) (s : St) : Tape × Nat := if h : ∃ p : Tape × Nat, ∀ s1, Good1 P s p.1 p.2 s1 → ¬ Fin P Rel s1 then h.choose else (s.w.tape, 0)
theorem adv_bad {s : St} (h : ¬ Fin P Rel s) (hu : Up s) : ∀ s1, Good1 P s (adv P Rel s).1 (adv P Rel s).2 s1 → ¬ Fin P Rel s1 := by
  have : ∃ p : Tape × Nat, ∀ s1, Good1 P s p.1 p.2 s1 → ¬ Fin P Rel s1 := by
    apply Classical.byContradiction
    intro c
    apply h
    have key : ∀ T d, ∃ s1, Good1 P s T d s1 ∧ Fin P Rel s1 := fun T d => by
      apply Classical.byContradiction
      intro c'
      exact c ⟨(T, d), fun s1 hg hf => c' ⟨s1, hg, hf⟩⟩
    exact .step (fun T d => (key T d).choose) hu (fun T d => (key T d).choose_spec.1) (fun T d => (key T d).choose_spec.2)
  unfold adv
  rw [dif_pos this]
  exact this.choose_spec
noncomputable def advW (P : Program) (Rel : Array Value → World → Prop) (s : St) : World := on s.w (adv P Rel s).1 (adv P Rel s).2
open Classical in
noncomputable def nxt (P : Program) (Rel : Array Value → World → Prop) (s : St) : St := if h : ∃ s1, Good1 P s (adv P Rel s).1 (adv P Rel s).2 s1 then h.choose else s
theorem nxt_eq {s s1 : St} (h : Good1 P s (adv P Rel s).1 (adv P Rel s).2 s1) : nxt P Rel s = s1 := by
  have e : ∃ s1, Good1 P s (adv P Rel s).1 (adv P Rel s).2 s1 := ⟨s1, h⟩
  unfold nxt
  rw [dif_pos e]
  exact e.choose_spec.det h
noncomputable def path (P : Program) (Rel : Array Value → World → Prop) (s : St) : Nat → St
  | 0 => s
  | n + 1 => nxt P Rel (path P Rel s n)
noncomputable def drew (P : Program) (Rel : Array Value → World → Prop) (s : St) : Nat → Nat
  | 0 => 0
  | n + 1 => drew P Rel s n + used P (path P Rel s n).fr (advW P Rel (path P Rel s n))
theorem drew_mono (s : St) {i j : Nat} (h : i ≤ j) : drew P Rel s i ≤ drew P Rel s j := by
  induction h with
  | refl => exact Nat.le_refl _
  | step _ ih => exact Nat.le_trans ih (Nat.le_add_right _ _)
open Classical in
/-- the tapes of the bad way, glued -/
noncomputable def glue (P : Program) (Rel : Array Value → World → Prop) (s : St) : Tape := fun n q =>
  if h : ∃ j, drew P Rel s j ≤ n ∧ n < drew P Rel s (j + 1) then (adv P Rel (path P Rel s h.choose)).1 ((adv P Rel (path P Rel s h.choose)).2 + (n - drew P Rel s h.choose)) q else 0
theorem glue_at (s : St) (j n : Nat) (hn : n < used P (path P Rel s j).fr (advW P Rel (path P Rel s j))) (q : Question) :
    glue P Rel s (drew P Rel s j + n) q = (adv P Rel (path P Rel s j)).1 ((adv P Rel (path P Rel s j)).2 + n) q := by
  have h : ∃ i, drew P Rel s i ≤ drew P Rel s j + n ∧ drew P Rel s j + n < drew P Rel s (i + 1) := ⟨j, Nat.le_add_right _ _, by show _ < _ + _; omega⟩
  have e : h.choose = j := by
    obtain ⟨h1, h2⟩ := h.choose_spec
    rcases Nat.lt_trichotomy h.choose j with c | c | c
    · have := drew_mono (P := P) (Rel := Rel) s (Nat.succ_le_of_lt c)
      simp only [Nat.succ_eq_add_one] at this
      omega
    · exact c
    · have h3 := drew_mono (P := P) (Rel := Rel) s (Nat.succ_le_of_lt c)
      have h4 : drew P Rel s (j + 1) = drew P Rel s j + used P (path P Rel s j).fr (advW P Rel (path P Rel s j)) := rfl
      simp only [Nat.succ_eq_add_one] at h3
      omega
  unfold glue
  rw [dif_pos h, e, Nat.add_sub_cancel_left]
theorem on_wr {w w' : World} {ok : FuncId → Prop} (h : WR ok ρ w w') (T T' : Tape) (d d' : Nat) : WR ok ρ (on w T d) (on w' T' d') := ⟨h.blk, h.glob, h.shut⟩
theorem on_wr_r {w w' : World} {ok : FuncId → Prop} (h : WR ok ρ w w') (T' : Tape) (d' : Nat) : WR ok ρ w (on w' T' d') := ⟨h.blk, h.glob, h.shut⟩

/-- what is asked of a relation: it is carried over, by whatever extends the first renaming -/
def Carried (L : List FuncId) (P : Program) (ρ0 : Ren) (Rel : Array Value → World → Prop) : Prop := ∀ (ρ : Ren) t t' w w', Ext ρ0 ρ → ρ.glob = P.globals.size → RR (· ∈ L) ρ t t' → WR (· ∈ L) ρ w w' → Rel t w → Rel t' w'

structure GI (L : List FuncId) (P : Program) (ρ0 : Ren) (Rel : Array Value → World → Prop) (s : St) (m : Machine) (j : Nat) (ρ : Ren) (φ : Frame) (γ : List Frame) (u : World) : Prop where
  run : runN P j m = .next (lone φ (γ ++ [c0]) u)
  tape : u.tape = glue P Rel s
  drawn : u.drawn = drew P Rel s j
  wr : WR (· ∈ L) ρ u (path P Rel s j).w
  sk : SK L P ρ bot0 (φ :: γ) ((path P Rel s j).fr :: (path P Rel s j).cs)
  glob : ρ.glob = P.globals.size
  no : ¬ Fin P Rel (path P Rel s j)
  ext : Ext ρ0 ρ
theorem FR.todo_eq {up : Bool} {a a' : Frame} (h : FR L P ρ up bot0 a a') : a'.todo = a.todo := by
  cases h with
  | mk f pre mode _ _ _ _ _ _ _ _ => simp [gF, mkF, bot0]
  | sp f _ _ h1 _ _ _ _ => cases h1
theorem SK.nil_iff {B : Bot} {a a' : Frame} {γ γ' : List Frame} (h : SK L P ρ B (a :: γ) (a' :: γ')) : γ = [] ↔ γ' = [] := by
  cases h with
  | bot _ => simp
  | cons _ _ h3 =>
    obtain ⟨x, k, x', k', rfl, rfl⟩ := h3.split
    simp
theorem SK.todo_iff {a a' : Frame} {γ γ' : List Frame} (h : SK L P ρ bot0 (a :: γ) (a' :: γ')) : a'.todo = a.todo := by
  cases h with
  | bot h1 => exact h1.todo_eq
  | cons h1 _ _ => exact h1.todo_eq
theorem glue_step (hF : FunsB P L) {s : St} {m : Machine} {j : Nat} {ρ0 ρ : Ren} {φ : Frame} {γ : List Frame} {u : World} (h : GI L P ρ0 Rel s m j ρ φ γ u) {n : Nat} {fr : Frame} {w : World} (hm : fr.mode = .run)
    (hN : runN P (n + 1) (lone φ (γ ++ [c0]) u) = .next (lone fr [c0] w)) : ∃ ρ' φ' γ' u', GI L P ρ0 Rel s m (j + 1) ρ' φ' γ' u' ∧ runN P n (lone φ' (γ' ++ [c0]) u') = .next (lone fr [c0] w) := by
  have hup : γ = [] → φ.todo ≠ [] := by
    intro e1 e2
    subst e1
    have hsk := h.sk
    generalize (path P Rel s j).fr = φ' at hsk
    generalize (path P Rel s j).cs = γ' at hsk
    cases hsk with
    | bot hfr =>
      cases hfr with
      | @mk _ _ f t t' pre mode h0 h1 h2 h3 h4 h5 h6 h7 =>
        obtain rfl := h2 rfl
        simp only [mkF] at e2
        subst e2
        exact past_end h0.ex t u n hm hN
      | sp f _ _ h1 _ _ _ _ => cases h1
    | cons _ _ h3 =>
      obtain ⟨x, k, x', k', e, _⟩ := h3.split
      cases e
  have hups : Up (path P Rel s j) := fun e => by
    rw [h.sk.todo_iff]
    exact hup (h.sk.nil_iff.2 e)
  have hA : Agree u (advW P Rel (path P Rel s j)) (used P (path P Rel s j).fr (advW P Rel (path P Rel s j))) := fun n hn q => by
    rw [h.tape, h.drawn]
    exact glue_at s j n hn q
  rcases sim hF h.glob (on_wr_r h.wr (adv P Rel (path P Rel s j)).1 (adv P Rel (path P Rel s j)).2) (base := [c0]) (base' := [c0]) h.sk hup (fun c => by
    obtain ⟨_, _, _, _, _, e, _⟩ := c
    cases e) hA true true with hb | hb
  · obtain ⟨ρ1, fr1, fr1', cs1, cs1', w1, w1', es, es', k1, k2, k3, k5, k6⟩ := hb
    have hs : step P (lone φ (γ ++ [c0]) u) = .next (lone fr1 (cs1 ++ [c0]) w1) := step_lone_go (by
      have := congrArg GStep.bare k1
      exact this)
    have hg : Good1 P (path P Rel s j) (adv P Rel (path P Rel s j)).1 (adv P Rel (path P Rel s j)).2 ⟨fr1', cs1', w1'⟩ := ⟨es', k2⟩
    have hn : path P Rel s (j + 1) = ⟨fr1', cs1', w1'⟩ := nxt_eq hg
    rw [runN_next hs] at hN
    refine ⟨ρ1, fr1, cs1, w1, ⟨?_, k5.tapeS.trans h.tape, ?_, ?_, ?_, k5.ext.glob.trans h.glob, ?_, h.ext.trans k5.ext⟩, hN⟩
    · rw [runN_add, h.run]
      simp [runN, hs]
    · obtain ⟨d, d1, d2⟩ := k5.drawn
      have k7 : w1'.drawn = (adv P Rel (path P Rel s j)).2 + used P (path P Rel s j).fr (advW P Rel (path P Rel s j)) := k6
      have d3 : w1'.drawn = (adv P Rel (path P Rel s j)).2 + d := d2
      rw [d1, h.drawn]
      show _ = _ + used P (path P Rel s j).fr (advW P Rel (path P Rel s j))
      omega
    · rw [hn]; exact k5.wr
    · rw [hn]; exact k3
    · rw [hn]
      exact adv_bad h.no hups _ hg
  · exfalso
    cases hst : stepG P true (G φ (γ ++ [c0])) u with
    | ended o w1 es =>
      have hs : step P (lone φ (γ ++ [c0]) u) = .ended o w1 := step_lone_ended (by
        have := congrArg GStep.bare hst
        exact this)
      exact runN_ended hs n hN
    | go g w1 es =>
      rw [hst] at hb
      obtain ⟨b1, b2, b3⟩ := hb
      rcases b3 with ⟨b4, b5⟩ | ⟨b4, b5, ch, b6⟩
      · have hs : step P (lone φ (γ ++ [c0]) u) = .next { world := w1, gs := #[g], rest := { timers := #[], alone := none, slice := none } } := by
          rw [step, stepT, move_lone]
          unfold G at hst
          simp [runT, lone, Array.swapAt!, hst]
        rw [runN_next hs] at hN
        have hne : ∀ k, runN P k { world := w1, gs := #[g], rest := { timers := #[], alone := none, slice := none } } ≠ .next (lone fr [c0] w) := by
          intro k
          induction k with
          | zero =>
            intro c
            simp only [runN, Stepped.next.injEq, lone, Machine.mk.injEq, Array.mk.injEq, List.cons.injEq, and_true] at c
            rw [c.2] at b5
            rcases b5 with c | c <;> cases c
          | succ k ih =>
            rcases blocked_step (P := P) g b5 w1 with ⟨o, w', he⟩ | he
            · exact runN_ended he k
            · rw [runN_next he]; exact ih
        exact hne n hN
      · have hs : step P (lone φ (γ ++ [c0]) u) = .next (lone { φ with mode := .panicking ch } (γ ++ [c0]) w1) := step_lone_go (by
          have := congrArg GStep.bare hst
          refine this.trans ?_
          obtain ⟨gf, gc, gs, gd, go⟩ := g
          simp only at b1 b2 b4 b5 b6
          subst b1 b2 b4 b5 b6
          rfl)
        rw [runN_next hs] at hN
        exact lost_never h.sk n rfl ch w1 hm hN
    | _ => rw [hst] at hb; exact hb
theorem glue_run (hF : FunsB P L) {ρ0 : Ren} {s : St} {m : Machine} {fr : Frame} {w : World} (hm : fr.mode = .run) : ∀ (n j : Nat) {ρ : Ren} {φ : Frame} {γ : List Frame} {u : World}, GI L P ρ0 Rel s m j ρ φ γ u → runN P n (lone φ (γ ++ [c0]) u) = .next (lone fr [c0] w) →
    ∃ ρ' i, GI L P ρ0 Rel s m i ρ' fr [] w
  | 0, j, ρ, φ, γ, u, h, hN => by
    simp only [runN, Stepped.next.injEq] at hN
    obtain ⟨c1, c2, c3⟩ := lone_ne hN
    subst c1 c3
    have : γ = [] := by
      cases γ with
      | nil => rfl
      | cons a l => simp at c2
    subst this
    exact ⟨ρ, j, h⟩
  | n + 1, j, ρ, φ, γ, u, h, hN => by
    obtain ⟨ρ', φ', γ', u', h', hN'⟩ := glue_step hF h hm hN
    exact glue_run hF hm n (j + 1) h' hN'
/-- A STRETCH OF CODE THAT COMES TO ITS END ALONE, ON EVERY TAPE, DOES SO STEP BY STEP WHOEVER TURNS THE TAPE. (The world is like itself under ρ: so its values are data.) -/
theorem fin_of_wp (hF : FunsB P L) (hR : Carried L P ρ Rel) {f : FuncId} (hf : ∃ fn, P.funcs[f]? = some fn) {t : Array Value} {c : Code} (hc : codeOk P L false c = true) {w : World} (hg : ρ.glob = P.globals.size) (ht : RR (· ∈ L) ρ t t) (hw : WR (· ∈ L) ρ w w)
    (h : ∀ T, c.wp P (fun e a w' => e = .normal ∧ a.defers = [] ∧ Rel a.tmps w') ⟨t, []⟩ (on w T 0)) : Fin P Rel ⟨mkF f t [.code c] .run, [], w⟩ := by
  apply Classical.byContradiction
  intro hno
  obtain ⟨e, a', w', ⟨rfl, hd, hrel⟩, harr⟩ := h (glue P Rel ⟨mkF f t [.code c] .run, [], w⟩) (mkF f #[] [] .run) [] [c0]
  obtain ⟨N, hN⟩ : Steps P _ _ := harr
  have hfin : (mkF f #[] [] .run).at a' [] = mkF f a'.tmps [] .run := by
    unfold Frame.at mkF
    rw [hd]
  rw [hfin] at hN
  have h0 : FR L P ρ false bot0 (mkF f t [.code c] .run) (mkF f t [.code c] .run) := .mk f [.code c] .run ⟨hf, .inl rfl⟩ (fun c => by cases c) (fun _ => rfl) (.inl rfl) (by simp [bot0]) (fun x hx => by
    simp only [List.mem_cons, List.not_mem_nil, or_false] at hx
    subst hx; exact hc) ht rfl
  obtain ⟨ρ', i, hi⟩ := glue_run hF (by rfl) N 0 (s := ⟨mkF f t [.code c] .run, [], w⟩) (Rel := Rel) (ρ0 := ρ) (ρ := ρ) (φ := mkF f t [.code c] .run) (γ := []) (u := on w (glue P Rel ⟨mkF f t [.code c] .run, [], w⟩) 0)
    ⟨rfl, rfl, rfl, ⟨hw.blk, hw.glob, hw.shut⟩, .bot h0, hg, hno, Ext.refl ρ⟩ hN
  apply hi.no
  refine .done ⟨hi.sk.nil_iff.1 rfl, hi.sk.todo_iff, ?_⟩
  have hsk := hi.sk
  have hwr := hi.wr
  generalize (path P Rel ⟨mkF f t [.code c] .run, [], w⟩ i).fr = φ' at hsk
  generalize (path P Rel ⟨mkF f t [.code c] .run, [], w⟩ i).cs = γ' at hsk
  cases hsk with
  | bot hfr =>
    generalize hx : mkF f a'.tmps [] .run = x at hfr
    cases hfr with
    | @mk _ _ f' t1 t2 pre mode g0 g1 g2 g3 g4 g5 g6 g7 =>
      simp only [mkF, Frame.mk.injEq] at hx
      obtain ⟨_, e2, _, _, e5, _⟩ := hx
      subst e2
      exact ⟨e5.symm, hR ρ' _ _ w' _ hi.ext hi.glob g6 hwr hrel⟩
    | sp f _ _ h1 _ _ _ _ => cases h1
  | cons _ _ h3 =>
    obtain ⟨x, k, x', k', e, _⟩ := h3.split
    cases e
end Co
end

section
namespace Co
open Go Go.Conc
variable {L : List FuncId} {P : Program} {ρ : Ren} {Rel : Array Value → World → Prop}

/-- one step of the ghost's: the order of the ghosts' states -/
def Sub (P : Program) (s1 s : St) : Prop := Up s ∧ ∃ T d, Good1 P s T d s1
theorem Fin.acc {s : St} (h : Fin P Rel s) : Acc (Sub P) s := by
  induction h with
  | done h => exact ⟨_, fun s1 hs => absurd h.2.1 (hs.1 h.1)⟩
  | step nx hu hg _ ih =>
    refine ⟨_, fun s1 hs => ?_⟩
    obtain ⟨_, T, d, h1⟩ := hs
    rw [h1.det (hg T d)]
    exact ih T d
theorem Fin.cases' {s : St} (h : Fin P Rel s) : Back Rel s ∨ (Up s ∧ ∀ T d, ∃ s1, Good1 P s T d s1 ∧ Fin P Rel s1) := by
  cases h with
  | done h => exact .inl h
  | step nx hu hg hf => exact .inr ⟨hu, fun T d => ⟨nx T d, hg T d, hf T d⟩⟩
theorem panic_step {m : Bool} {φ x : Frame} {k : List Frame} {ch : List PanicEntry} {w : World} (hd : φ.defers = []) (hf : ∃ fn, P.funcs[φ.fn]? = some fn) :
    stepG P m (G { φ with mode := .panicking ch } (x :: k)) w = .go (G (x.raise ch) k) w #[] := by
  obtain ⟨fn, hf⟩ := hf
  simp [stepG, unwind, Frame.catches, hd, hf, G]
theorem panic_noFin {B : Bot} : ∀ {l l' : List Frame} (_ : SK L P ρ B l l') {φ : Frame} {γ : List Frame} (_ : l = φ :: γ) (ch : List PanicEntry) (w : World), ¬ Fin P Rel ⟨{ φ with mode := .panicking ch }, γ, w⟩ := by
  intro l l' hl
  induction hl with
  | @bot a a' hφ =>
    intro φ γ e ch w hfin
    simp only [List.cons.injEq] at e
    obtain ⟨rfl, rfl⟩ := e
    rcases hfin.cases' with hb | ⟨_, hs⟩
    · cases hb.2.2.1
    · obtain ⟨s1, ⟨es, h1⟩, _⟩ := hs w.tape w.drawn
      have h2 : stepG P true (G { a with mode := .panicking ch } ([] ++ [c0])) (on w w.tape w.drawn) = .go (G (c0.raise ch) []) (on w w.tape w.drawn) #[] := by
        cases hφ with
        | mk f pre mode h0 _ _ _ _ _ _ _ => exact panic_step rfl h0.ex
        | sp f h0 _ _ _ _ _ _ => exact panic_step rfl h0.ex
      rw [h2] at h1
      simp [G] at h1
  | @cons a a' l l' hφ hhd hl ih =>
    intro φ γ e ch w hfin
    simp only [List.cons.injEq] at e
    obtain ⟨rfl, rfl⟩ := e
    obtain ⟨x, k, x', k', rfl, rfl⟩ := hl.split
    rcases hfin.cases' with hb | ⟨_, hs⟩
    · cases hb.2.2.1
    · obtain ⟨s1, ⟨es, h1⟩, hf1⟩ := hs w.tape w.drawn
      have h2 : stepG P true (G { a with mode := .panicking ch } (x :: k ++ [c0])) (on w w.tape w.drawn) = .go (G (x.raise ch) (k ++ [c0])) (on w w.tape w.drawn) #[] := by
        cases hφ with
        | mk f pre mode h0 _ _ _ _ _ _ _ => exact panic_step rfl h0.ex
      have hra : x.raise ch = { x with mode := .panicking ch } := by unfold Frame.raise; rw [(hhd x rfl).1]
      rw [h2, hra] at h1
      have e1 : s1 = ⟨{ x with mode := .panicking ch }, k, on w w.tape w.drawn⟩ := by
        obtain ⟨fr, cs, w1⟩ := s1
        simp only [GStep.go.injEq, G, Goroutine.mk.injEq, List.append_cancel_right_eq] at h1
        simp only [St.mk.injEq]
        exact ⟨h1.1.1.symm, h1.1.2.1.symm, h1.2.1.symm⟩
      rw [e1] at hf1
      exact ih rfl ch _ hf1
/-- a goroutine in a stretch, and its ghost -/
structure In (L : List FuncId) (P : Program) (ρ0 : Ren) (Rel : Array Value → World → Prop) (B : Bot) (s : St) (ρ : Ren) (fr' : Frame) (cs' : List Frame) (W : World) : Prop where
  fin : Fin P Rel s
  sk : SK L P ρ B (s.fr :: s.cs) (fr' :: cs')
  wr : WR (· ∈ L) ρ s.w W
  glob : ρ.glob = P.globals.size
  ext : Ext ρ0 ρ
theorem in_step (hF : FunsB P L) {ρ0 : Ren} {B : Bot} {s : St} {fr' : Frame} {cs' : List Frame} {W : World} (h : In L P ρ0 Rel B s ρ fr' cs' W) (hu : Up s) (hsp : ¬ AtSp B s.fr s.cs) (m : Bool) (base : List Frame) :
    ∃ s1 ρ1 fr1 cs1 W1 es, stepG P m (G fr' (cs' ++ base)) W = .go (G fr1 (cs1 ++ base)) W1 es ∧ In L P ρ0 Rel B s1 ρ1 fr1 cs1 W1 ∧ Sub P s1 s ∧ Out (· ∈ L) ρ ρ1 (on s.w W.tape W.drawn) W s1.w W1 #[] es := by
  have hw : WR (· ∈ L) ρ (on s.w W.tape W.drawn) W := ⟨h.wr.blk, h.wr.glob, h.wr.shut⟩
  have hfin : ∃ s1, Good1 P s W.tape W.drawn s1 ∧ Fin P Rel s1 := by
    rcases h.fin.cases' with hb | ⟨_, hs⟩
    · exact absurd hb.2.1 (hu hb.1)
    · exact hs _ _
  obtain ⟨s1, ⟨es0, hg⟩, hf1⟩ := hfin
  rcases sim hF h.glob hw (base := [c0]) (base' := base) h.sk hu hsp (fun n _ q => rfl) true m with hb | hb
  · obtain ⟨ρ1, fr1, fr1', cs1, cs1', w1, w1', es, es', k1, k2, k3, k5, k6⟩ := hb
    have hg1 : Good1 P s W.tape W.drawn ⟨fr1, cs1, w1⟩ := ⟨es, k1⟩
    have e1 : s1 = ⟨fr1, cs1, w1⟩ := Good1.det ⟨es0, hg⟩ hg1
    subst e1
    exact ⟨⟨fr1, cs1, w1⟩, ρ1, fr1', cs1', w1', es', k2, ⟨hf1, k3, k5.wr, k5.ext.glob.trans h.glob, h.ext.trans k5.ext⟩, ⟨hu, _, _, hg1⟩, k5⟩
  · exfalso
    rw [hg] at hb
    obtain ⟨b1, b2, b3⟩ := hb
    rcases b3 with ⟨_, b5⟩ | ⟨_, _, ch, b6⟩
    · simp [G] at b5
    · simp only [G] at b1 b6
      have e1 : s1 = ⟨{ s.fr with mode := .panicking ch }, s.cs, s1.w⟩ := by
        obtain ⟨fr, cs, w1⟩ := s1
        simp only [St.mk.injEq, and_true]
        exact ⟨b6, List.append_cancel_right b1⟩
      rw [e1] at hf1
      exact panic_noFin h.sk rfl ch _ hf1
/-- the stretch has come to its end: what the great one holds then -/
theorem in_back {ρ0 : Ren} (hR : Carried L P ρ0 Rel) {B : Bot} {s : St} {fr' : Frame} {cs' : List Frame} {W : World} (h : In L P ρ0 Rel B s ρ fr' cs' W) (hb : Back Rel s) :
    cs' = [] ∧ ∃ t', fr' = { fn := fr'.fn, tmps := t', todo := B.k, defers := B.ds, mode := .run, kind := B.kd } ∧ RR (· ∈ L) ρ s.fr.tmps t' ∧ Rel t' W ∧ (B.fn = none ∨ B.fn = some fr'.fn) ∧ B.sp = none := by
  obtain ⟨b1, b2, b3, b4⟩ := hb
  have hsk := h.sk
  rw [b1] at hsk
  generalize hx : s.fr = x at hsk b2 b3 b4
  cases hsk with
  | bot hfr =>
    refine ⟨rfl, ?_⟩
    cases hfr with
    | @mk _ _ f t t' pre mode h0 h1 h2 h3 h4 h5 h6 h7 =>
      obtain rfl := h2 rfl
      simp only [mkF] at b2
      subst b2
      exact ⟨t', rfl, h6, hR ρ t t' s.w W h.ext h.glob h6 h.wr b4, h0.at_, h7⟩
    | sp f _ _ _ _ h3 _ _ =>
      cases h3 with
      | code id => cases b2
      | reg l hl hm => cases b2
  | cons _ _ h3 =>
    obtain ⟨x, k, x', k', e, _⟩ := h3.split
    cases e
theorem Fin.up_or {s : St} (h : Fin P Rel s) : Back Rel s ∨ Up s := h.cases'.imp id (·.1)
/-- the others have turned the world: the ghost's blocks stand -/
theorem In.keep {ρ0 : Ren} {B : Bot} {s : St} {fr' : Frame} {cs' : List Frame} {W W1 : World} (h : In L P ρ0 Rel B s ρ fr' cs' W) (hk : ∀ b, ρ.dom b → ¬ ρ.shut b → W1.heap[ρ.to b]? = W.heap[ρ.to b]?) (hs : ∀ b, ρ.dom b → ρ.shut b → ∀ c t fr, W.heap[ρ.to b]? = some (.cells c t fr) → ∃ c', W1.heap[ρ.to b]? = some (.cells c' t fr)) : In L P ρ0 Rel B s ρ fr' cs' W1 :=
  ⟨h.fin, h.sk, ⟨fun b hb => by
    by_cases c : ρ.shut b
    · obtain ⟨x, t, fr, e⟩ := h.wr.at_shut hb c
      obtain ⟨y, e'⟩ := hs b hb c _ _ _ e
      obtain ⟨t0, fr0, e0⟩ := h.wr.shut b hb c
      have h0 := h.wr.blk b hb
      rw [e, e0] at h0
      rw [e', e0]
      cases h0 with
      | cells t hr h1 => exact .cells t ⟨Nat.zero_le _, fun i v v' hv => by simp at hv⟩ fun i hi => by simp at hi
    · rw [hk b hb c]; exact h.wr.blk b hb, h.wr.glob, h.wr.shut⟩, h.glob, h.ext⟩
/-- the operation that is stepped by hand is next: what the great one holds, and how the ghost goes on: it does as if it were nothing -/
theorem in_sp {ρ0 : Ren} {B : Bot} {s : St} {fr' : Frame} {cs' : List Frame} {W : World} (h : In L P ρ0 Rel B s ρ fr' cs' W) (hsp : AtSp B s.fr s.cs) : cs' = [] ∧ ∃ f t t' n og oq r, B.sp = some (n, og, oq) ∧ SpOk n og oq ∧ s = ⟨mkF f t [.inRegion og (n :: r)] .run, [], s.w⟩ ∧
    fr' = gF B f t' [.inRegion oq (n :: r)] .run ∧ RR (· ∈ L) ρ t t' ∧ FnAt P B f ∧ B.kd ≠ .early ∧ (∀ o ∈ og.toList, opOk P L o.op = true) ∧ OrdInv og (n :: r) := by
  obtain ⟨e1, n, og, oq, r, e2, e3⟩ := hsp
  have hsk := h.sk
  rw [e1] at hsk
  obtain ⟨sf, sc, sw⟩ := s
  simp only at e1 e3 hsk
  subst e1
  cases hsk with
  | bot hfr =>
    refine ⟨rfl, ?_⟩
    cases hfr with
    | @mk _ _ f t t' pre mode h0 h1 h2 h3 h4 h5 h6 h7 =>
      rw [e2] at h7; cases h7
    | @sp _ f t t' n' og' oq' pre pre2 h0 h4 h1 h2 h3 h5 h6 =>
      rw [e2] at h1
      simp only [Option.some.injEq, Prod.mk.injEq] at h1
      obtain ⟨rfl, rfl, rfl⟩ := h1
      simp only [mkF] at e3
      cases h3 with
      | code id => cases e3
      | reg l hl hm =>
        simp only [List.cons.injEq, Item.inRegion.injEq, true_and, and_true] at e3
        subst e3
        exact ⟨f, t, t', n, og, oq, r, e2, h2, rfl, rfl, h6, h0, h4, h5, hl⟩
  | cons _ _ h3 =>
    obtain ⟨x, k, x', k', e, _⟩ := h3.split
    cases e
end Co
end

section
namespace Co
open Go Go.Conc
variable {L : List FuncId} {P : Program} {ρ : Ren} {Rel : Array Value → World → Prop}

theorem on_self (w : World) : on w w.tape w.drawn = w := rfl
/-- a ghost's operation that does nothing -/
theorem nop_step {f : FuncId} {t : Array Value} {og : Array Oper} {n : Nat} {r : List Nat} {o : Oper} {v : Value} (ho : og[n]? = some o) (hop : o.op = .assign (.const v)) (hd : o.dst = none) (hgd : o.guard = none) (w : World) :
    ∃ es, stepG P true (G (mkF f t [.inRegion og (n :: r)] .run) [c0]) w = .go (G (mkF f t [.inRegion og r] .run) [c0]) w es := by
  refine ⟨seen P f #[] ++ #[], ?_⟩
  have hwt : Region.wanted o (yielded og t) = true := by unfold Region.wanted; rw [hgd]
  have hex : ∀ (e : Operand → Value), execOp e o = Pure.pure (.value (e (.const v))) := fun e => by unfold execOp; rw [hop]
  have e1 : stepG P true (G (mkF f t [.inRegion og (n :: r)] .run) [c0]) w = stepG.apply P true (mkF f t [.inRegion og (n :: r)] .run) [c0] none (execOp (mkF f t [.inRegion og (n :: r)] .run).eval o) w := by
    simp [stepG, stepG.exec, stepG.oper, G, mkF, ho, hwt, Frame.oper?]
  have hfin : (mkF f t [.inRegion og (n :: r)] .run).finish v = mkF f t [.inRegion og r] .run := by
    unfold Frame.finish mkF
    simp only [ho, Option.bind_some, hd]
  have e2 : stepG P true (G (mkF f t [.inRegion og (n :: r)] .run) [c0]) w = .go (G ((mkF f t [.inRegion og (n :: r)] .run).finish v) [c0]) w (seen P f #[] ++ #[]) := by
    rw [e1, hex]; rfl
  rw [e2, hfin]
end Co
end

section
namespace Co
open Go Go.Conc
variable {L : List FuncId} {P : Program} {ρ : Ren} {Rel : Array Value → World → Prop}

theorem tail_end {f : FuncId} {t : Array Value} {w : World} (h : Fin P Rel ⟨mkF f t [] .run, [], w⟩) : Rel t w := by
  rcases h.cases' with hb | ⟨hu, _⟩
  · exact hb.2.2.2
  · exact absurd rfl (hu rfl)
theorem tail_nil {f : FuncId} {t : Array Value} {og : Array Oper} {w : World} (h : Fin P Rel ⟨mkF f t [.inRegion og []] .run, [], w⟩) : Rel t w := by
  rcases h.cases' with hb | ⟨_, hn⟩
  · cases hb.2.1
  · obtain ⟨s1, g1, f1⟩ := hn w.tape w.drawn
    have hg : Good1 P ⟨mkF f t [.inRegion og []] .run, [], w⟩ w.tape w.drawn ⟨mkF f t [] .run, [], w⟩ := ⟨#[], rfl⟩
    rw [← hg.det g1] at f1
    exact tail_end f1
theorem tail_one {f : FuncId} {t : Array Value} {og : Array Oper} {w : World} {j : Nat} {o : Oper} {d : Tmp} {a : Operand} {k : Nat} (ho : og[j]? = some o) (hop : o.op = .extract a k) (hd : o.dst = some d) (hgd : o.guard = none)
    (h : Fin P Rel ⟨mkF f t [.inRegion og [j]] .run, [], w⟩) : ∃ v, Rel (t.setIfInBounds d v) w := by
  rcases h.cases' with hb | ⟨_, hn⟩
  · cases hb.2.1
  · obtain ⟨s1, ⟨es, g1⟩, f1⟩ := hn w.tape w.drawn
    rw [on_self] at g1
    have hwt : Region.wanted o (yielded og t) = true := by unfold Region.wanted; rw [hgd]
    have e1 : stepG P true (G (mkF f t [.inRegion og [j]] .run) ([] ++ [c0])) w = stepG.apply P true (mkF f t [.inRegion og [j]] .run) [c0] none (execOp (mkF f t [.inRegion og [j]] .run).eval o) w := by
      simp [stepG, stepG.exec, stepG.oper, G, mkF, ho, hwt, Frame.oper?]
    have hex : execOp (mkF f t [.inRegion og [j]] .run).eval o = (do Pure.pure (Next.value (← Instr.extract ((mkF f t [.inRegion og [j]] .run).eval a) k))) := by unfold execOp; rw [hop]
    have hfin : ∀ v, (mkF f t [.inRegion og [j]] .run).finish v = mkF f (t.setIfInBounds d v) [.inRegion og []] .run := fun v => by
      unfold Frame.finish mkF
      simp only [ho, Option.bind_some, hd]
    rw [e1, hex] at g1
    have hcase : (∃ v, Instr.extract ((mkF f t [.inRegion og [j]] .run).eval a) k = Pure.pure v) ∨ ∃ m, Instr.extract ((mkF f t [.inRegion og [j]] .run).eval a) k = stuck m := by
      generalize (mkF f t [.inRegion og [j]] .run).eval a = x
      unfold Instr.extract
      cases x with
      | tuple vs =>
        simp only
        cases vs[k]? with
        | none => exact .inr ⟨_, rfl⟩
        | some v => exact .inl ⟨v, rfl⟩
      | _ => exact .inr ⟨_, rfl⟩
    rcases hcase with ⟨v, hv⟩ | ⟨m, hm⟩
    · rw [hv] at g1
      have e2 : stepG.apply P true (mkF f t [.inRegion og [j]] .run) [c0] none (do Pure.pure (Next.value (← (Pure.pure v : Sem Value)))) w = .go (G ((mkF f t [.inRegion og [j]] .run).finish v) ([] ++ [c0])) w (seen P f #[] ++ #[]) := rfl
      rw [e2, hfin] at g1
      have hs1 : s1 = ⟨mkF f (t.setIfInBounds d v) [.inRegion og []] .run, [], w⟩ := by
        obtain ⟨fr, cs, w1⟩ := s1
        simp only [GStep.go.injEq, G, Goroutine.mk.injEq, List.append_cancel_right_eq] at g1
        simp only [St.mk.injEq]
        exact ⟨g1.1.1.symm, g1.1.2.1.symm, g1.2.1.symm⟩
      rw [hs1] at f1
      exact ⟨v, tail_nil f1⟩
    · rw [hm] at g1
      cases g1
end Co
end

section
set_option linter.unusedVariables false
set_option linter.unusedSimpArgs false
namespace Go.Proofs.YtienepcknafddaaDoor
open Go Go.RowKit Co

/-- order.Sort, order.Merge, the reference's Items and Sort, and all that they reach -/
def cwL : List FuncId := [15, 10, 11, 32, 33, 34, 47, 48, 50, 55, 56, 57, 58, 62, 63, 41, 4, 9, 5]
theorem cw_each : (cwL.all fun f => funB Tryd.prog cwL f) = true := by kernel_rfl
theorem cw_funs : FunsB Tryd.prog cwL := fun f hf => by
  have := cw_each
  rw [List.all_eq_true] at this
  exact this f hf
end Go.Proofs.YtienepcknafddaaDoor
end

section
set_option linter.unusedVariables false
set_option linter.unusedSimpArgs false
set_option linter.unusedVariables false
set_option linter.unusedSimpArgs false
namespace Go.Proofs.YtienepcknafddaaDoor
open Go Go.RowKit SimPlain HeapPlain SymPlain

theorem cellsAt_of {w : World} {a : Addr} {v : Value} (hv : w.cell? a = some v) : CellsAt w a.block := by
  unfold World.cell? at hv
  generalize h1 : w.heap[a.block]? = o at hv
  match o, h1, hv with
  | some (.cells c t fr), h1, hv => exact ⟨c, t, fr, h1⟩
/-- order.Sort's answer: a row sorted -/
structure SoR (l : List Ev) (g : Option Addr) (c : Nat) (W : List Ev) (w' : World) : Prop where
  perm : W.Perm l
  lt : W.Pairwise Lt
  at_ : EvA w' g W
  shape : (g = none ∧ c = 0) ∨ ∃ b, g = some ⟨b, 0, none⟩
  cap : W.length ≤ c
  ex : ∀ b, g = some ⟨b, 0, none⟩ → CellsAt w' b
theorem etcap {w : World} {B : Nat} {a : Option Addr} {cap : Nat} {l : List Ev} (h : EtOwn w B a cap l) : l.length ≤ cap := by
  rcases h.2 with ⟨h', hz⟩ | ⟨g, cap', cur, h', hb, hg, hc, _, hs, ht⟩
  · omega
  · simp only [Value.slice.injEq, true_and] at h'
    obtain ⟨_, rfl⟩ := h'
    exact hc
theorem Sort_any (l : List Ev) (a : Option Addr) (cap : Nat) (w : World) (hx : EvA w a l) (ha : (a = none ∧ cap = 0) ∨ ∃ b off, a = some ⟨b, off, none⟩) (hok : chkI l = 0) (hbef : l.Pairwise Bef) :
    Calls Tryd.prog 15 #[.slice a l.length cap] w fun e w' => ∃ g c W, e = .returned (.tuple #[.slice g W.length c, .nilIface]) ∧ SoR l g c W w' ∧ Below w.heap.size w w' := by
  rcases Nat.eq_zero_or_pos l.length with h0 | h0
  · obtain rfl : l = [] := by simpa using h0
    rcases ha with ⟨rfl, rfl⟩ | ⟨b, off, rfl⟩
    · refine (Sort_none w).mono ?_
      rintro e w' ⟨rfl, hb⟩
      exact ⟨none, 0, [], rfl, ⟨List.Perm.refl _, List.Pairwise.nil, .inl rfl, .inl ⟨rfl, rfl⟩, Nat.le_refl _, fun _ e => by cases e⟩, hb⟩
    · refine (Sort_empty b off cap w).mono ?_
      rintro e w' ⟨⟨g, rfl, hc⟩, hb⟩
      exact ⟨some ⟨g, 0, none⟩, 0, [], rfl, ⟨List.Perm.refl _, List.Pairwise.nil, .inl rfl, .inr ⟨g, rfl⟩, Nat.le_refl _, fun _ e => by cases e; exact hc⟩, hb⟩
  · refine (Sort_ok l a cap w hx hok h0 hbef).mono ?_
    rintro e w' ⟨g, c, W, rfl, h1, h2, h3, h4⟩
    obtain ⟨g', e1, _, h5, h6⟩ := h3.open (by rw [h1.length_eq]; exact h0)
    cases e1
    refine ⟨some ⟨g, 0, none⟩, c, W, rfl, ⟨h1, h2, .inr ⟨g, 0, rfl, h5, fun i hi => by simpa using h6 i hi⟩, .inr ⟨g, rfl⟩, etcap h3, fun _ e => ?_⟩, h4⟩
    cases e
    have := (h6 0 (by rw [h1.length_eq]; exact h0)).1
    exact cellsAt_of this
theorem slice_nil (W : World) : (Instr.sliceAt 22 (.slice none 0 0) (some (.int .i64 0)) (some (.int .i64 0)) none).run Tryd.prog W = .ok (.slice none 0 0) W := by
  simp [go_sem]
/-- the worker's operations; the last, the store, is stepped by hand: the ghost's is nothing -/
noncomputable def ops10 : List Oper := match Tryd.f13.body with
  | some (.seq _ (.region _ o _)) => o.toList
  | _ => []
def nop (o : Oper) : Oper := { o with op := .assign (.const (.bool true)), dst := none }
noncomputable def og10 : Array Oper := ((ops10.take 22) ++ (ops10.drop 22).map nop).toArray
set_option maxRecDepth 100000 in
set_option maxHeartbeats 4000000 in
theorem one_wp (A : Option Addr) (b off N cap k h C L K H Q lo hi : Nat) (hA : A = some ⟨b, off, none⟩ ∨ (A = none ∧ N = 0 ∧ cap = 0)) (part : List Ev) (hh : 1 ≤ h) (hk : k < h) (h6 : h ≤ 6) (hN : N ≤ 60) (hlo : lo = k * N / h) (hhi : hi = (k + 1) * N / h) (hlh : lo ≤ hi) (hhN : hi ≤ N) (hNc : N ≤ cap) (hp : part.length = hi - lo) (hok : chkI part = 0) (hbef : part.Pairwise Bef) (w : World) (X : Value)
    (hL : w.cell? ⟨L, 0, none⟩ = some (.slice A N cap)) (hK : w.cell? ⟨K, 0, none⟩ = some (.int .i64 k)) (hH : w.cell? ⟨H, 0, none⟩ = some (.int .i64 h)) (hQ : w.cell? ⟨Q, 0, none⟩ = some (.slice (some ⟨C, 0, none⟩) h h))
    (hl1 : L < w.heap.size) (hl2 : K < w.heap.size) (hl3 : H < w.heap.size) (hl4 : Q < w.heap.size) (hE : EvA w (some ⟨b, off + lo * 2, none⟩) part) :
    (Code.region 1 og10 true).wp Tryd.prog (fun e a w' => e = .normal ∧ a.defers = [] ∧ ∃ g c W, SoR part g c W w' ∧ a.tmps[24]? = some (.slice g W.length c) ∧ a.tmps[26]? = some (.pointer (some ⟨C, k, none⟩)) ∧ ∃ x y, a.tmps[5]? = some (.tuple #[x, y]))
      ⟨#[X, .pointer (some ⟨L, 0, none⟩), .pointer (some ⟨K, 0, none⟩), .pointer (some ⟨H, 0, none⟩), .pointer (some ⟨Q, 0, none⟩), undef, undef, undef, undef, undef, undef, undef, undef, undef, undef, undef, undef, undef, undef, undef, undef, undef, undef, undef, undef, undef, undef], []⟩ w := by
  have hcell : ∀ (w1 : World), w1.heap = w.heap → ∀ a, w1.cell? a = w.cell? a := fun w1 e1 a => by unfold World.cell?; rw [e1]
  obtain ⟨A0, hA0⟩ : ∃ A0, A0 = A := ⟨_, rfl⟩
  rw [← hA0] at hL hA
  have hSoAll : ∀ (A : Option Addr) (n c0 : Nat), (∀ w1 : World, w1.heap = w.heap → EvA w1 A part) → ((A = none ∧ c0 = 0) ∨ ∃ b' off', A = some ⟨b', off', none⟩) → n = part.length → ∀ w1 : World, w1.heap = w.heap → Calls Tryd.prog 15 #[.slice A n c0] w1 fun e w' => ∃ g c W, e = .returned (.tuple #[.slice g W.length c, .nilIface]) ∧ SoR part g c W w' ∧
      w'.cell? ⟨L, 0, none⟩ = some (.slice A0 N cap) ∧ w'.cell? ⟨K, 0, none⟩ = some (.int .i64 k) ∧ w'.cell? ⟨H, 0, none⟩ = some (.int .i64 h) ∧ w'.cell? ⟨Q, 0, none⟩ = some (.slice (some ⟨C, 0, none⟩) h h) := fun A n c0 hx hsh hn w1 e1 => by
    subst hn
    refine (Sort_any part A c0 w1 (hx w1 e1) hsh hok hbef).mono ?_
    rintro e w' ⟨g, c, W, rfl, h1, h2⟩
    have key : ∀ (A : Addr) (v : Value), A.block < w.heap.size → w.cell? A = some v → w'.cell? A = some v := fun A v hA hv => (h2.cell (p := A) (by rw [e1]; exact hA)).trans ((hcell w1 e1 A).trans hv)
    exact ⟨g, c, W, rfl, h1, key _ _ hl1 hL, key _ _ hl2 hK, key _ _ hl3 hH, key _ _ hl4 hQ⟩
  clear hA0
  have b1 : k * N ≤ 6 * 60 := Nat.mul_le_mul (by omega) hN
  have b2 : (k + 1) * N ≤ 6 * 60 := Nat.mul_le_mul (by omega) hN
  have m1 : (k : Int) * (N : Int) = ((k * N : Nat) : Int) := by simp
  have m2 : ((k : Int) + 1) * (N : Int) = (((k + 1) * N : Nat) : Int) := by simp
  have d1 : ((k * N : Nat) : Int).tdiv (h : Int) = (lo : Int) := by rw [hlo]; rfl
  have d2 : (((k + 1) * N : Nat) : Int).tdiv (h : Int) = (hi : Int) := by rw [hhi]; rfl
  have hl0 : lo ≤ 60 := Nat.le_trans hlh (Nat.le_trans hhN hN)
  have hh0 : hi ≤ 60 := Nat.le_trans hhN hN
  generalize k * N = P1 at *
  generalize (k + 1) * N = P2 at *
  have d3 : (P1 : Int) / (h : Int) = (lo : Int) := by rw [hlo]; rfl
  have d4 : (P2 : Int) / (h : Int) = (hi : Int) := by rw [hhi]; rfl
  have z1 : h ≠ 0 := by omega
  have w1 : IntKind.i64.wrap (P1 : Int) = (P1 : Int) := by rw [IntKind.wrap_i64]; omega
  have w2 : IntKind.i64.wrap (P2 : Int) = (P2 : Int) := by rw [IntKind.wrap_i64]; omega
  have w3 : IntKind.i64.wrap ((k : Int) + 1) = (k : Int) + 1 := by rw [IntKind.wrap_i64]; omega
  have w4 : IntKind.i64.wrap (lo : Int) = (lo : Int) := by rw [IntKind.wrap_i64]; omega
  have w5 : IntKind.i64.wrap (hi : Int) = (hi : Int) := by rw [IntKind.wrap_i64]; omega
  have i1 : (0 : Int) ≤ (lo : Int) := by omega
  have i2 : (lo : Int) ≤ (hi : Int) := by omega
  have i3 : (hi : Int) ≤ (cap : Int) := by omega
  have i4 : (k : Int) < (h : Int) := by omega
  have i5 : (0 : Int) ≤ (k : Int) := by omega
  have i6 : (0 : Int) ≤ (hi : Int) := by omega
  clear hlo hhi hok hbef
  rcases hA with rfl | ⟨rfl, rfl, rfl⟩
  · by_cases hcl : cap = lo
    · obtain rfl : hi = lo := by omega
      obtain rfl : cap = hi := by omega
      have hp0 : part = [] := by simpa using hp
      have HS := Lib.hid (hSoAll (some ⟨b, off, none⟩) 0 0 (fun w1 _ => .inl hp0) (.inr ⟨_, _, rfl⟩) (by rw [hp0]; rfl))
      clear hSoAll hcell hE hp hp0
      simp only [og10, ops10, Tryd.f13, List.take_succ_cons, List.take_zero, List.drop_succ_cons, List.drop_zero, List.map_cons, List.map_nil, nop, List.cons_append, List.nil_append]
      go_region_held3 (fun w' => w'.cell? ⟨L, 0, none⟩ = some (.slice (some ⟨b, off, none⟩) N cap) ∧ w'.cell? ⟨K, 0, none⟩ = some (.int .i64 k) ∧ w'.cell? ⟨H, 0, none⟩ = some (.int .i64 h) ∧ w'.cell? ⟨Q, 0, none⟩ = some (.slice (some ⟨C, 0, none⟩) h h))
        (first | exact ⟨hL, hK, hH, hQ⟩ | exact ⟨k1, k2, k3, k4⟩)
        (first | (go_at_call 15; refine (HS.out w.drew rfl).mono ?_; rintro e w4 ⟨g, c, W, rfl, hSo, k1, k2, k3, k4⟩; have HSo := Lib.hid hSo; clear hSo))
      all_goals exact ⟨rfl, rfl, _, _, _, HSo.out, rfl, by simp, _, _, rfl⟩
    · have HS := Lib.hid (hSoAll (some ⟨b, off + lo * 2, none⟩) (hi - lo) (cap - lo) (fun w1 e1 => by
        rcases hE with hE | ⟨b', o', e2, h2, h3⟩
        · exact .inl hE
        · exact .inr ⟨b', o', e2, by rw [e1]; exact h2, fun i hi => by rw [hcell w1 e1, hcell w1 e1]; exact h3 i hi⟩) (.inr ⟨_, _, rfl⟩) hp.symm)
      clear hSoAll hcell hE hp
      simp only [og10, ops10, Tryd.f13, List.take_succ_cons, List.take_zero, List.drop_succ_cons, List.drop_zero, List.map_cons, List.map_nil, nop, List.cons_append, List.nil_append]
      go_region_held3 (fun w' => w'.cell? ⟨L, 0, none⟩ = some (.slice (some ⟨b, off, none⟩) N cap) ∧ w'.cell? ⟨K, 0, none⟩ = some (.int .i64 k) ∧ w'.cell? ⟨H, 0, none⟩ = some (.int .i64 h) ∧ w'.cell? ⟨Q, 0, none⟩ = some (.slice (some ⟨C, 0, none⟩) h h))
        (first | exact ⟨hL, hK, hH, hQ⟩ | exact ⟨k1, k2, k3, k4⟩)
        (first | (go_at_call 15; refine (HS.out w.drew rfl).mono ?_; rintro e w4 ⟨g, c, W, rfl, hSo, k1, k2, k3, k4⟩; have HSo := Lib.hid hSo; clear hSo))
      all_goals exact ⟨rfl, rfl, _, _, _, HSo.out, rfl, by simp, _, _, rfl⟩
  · obtain rfl : lo = 0 := by omega
    obtain rfl : hi = 0 := by omega
    have hp0 : part = [] := by simpa using hp
    have d1' : (P1 : Int).tdiv (h : Int) = 0 := d1
    have d2' : (P2 : Int).tdiv (h : Int) = 0 := d2
    have d3' : (P1 : Int) / (h : Int) = 0 := d3
    have d4' : (P2 : Int) / (h : Int) = 0 := d4
    clear d1 d2 d3 d4 w4 w5 i1 i2 i3 i6 hlh hhN hNc hl0 hh0
    have hs0 := slice_nil
    have hw0 : IntKind.i64.wrap 0 = 0 := rfl
    have HS := Lib.hid (hSoAll none 0 0 (fun w1 _ => .inl hp0) (.inl ⟨rfl, rfl⟩) (by rw [hp0]; rfl))
    clear hSoAll hcell hE hp hp0
    simp only [og10, ops10, Tryd.f13, List.take_succ_cons, List.take_zero, List.drop_succ_cons, List.drop_zero, List.map_cons, List.map_nil, nop, List.cons_append, List.nil_append]
    go_region_held3 (fun w' => w'.cell? ⟨L, 0, none⟩ = some (.slice none 0 0) ∧ w'.cell? ⟨K, 0, none⟩ = some (.int .i64 k) ∧ w'.cell? ⟨H, 0, none⟩ = some (.int .i64 h) ∧ w'.cell? ⟨Q, 0, none⟩ = some (.slice (some ⟨C, 0, none⟩) h h))
      (first | exact ⟨hL, hK, hH, hQ⟩ | exact ⟨k1, k2, k3, k4⟩)
      (first | (go_at_call 15; refine (HS.out w.drew rfl).mono ?_; rintro e w4 ⟨g, c, W, rfl, hSo, k1, k2, k3, k4⟩; have HSo := Lib.hid hSo; clear hSo))
    all_goals exact ⟨rfl, rfl, _, _, _, HSo.out, rfl, by simp, _, _, rfl⟩
end Go.Proofs.YtienepcknafddaaDoor
end

section
namespace Cr

/-- a tree without an endless way down -/
inductive Tr (ι : Type) : Type
  | leaf : Tr ι
  | node (f : ι → Tr ι) : Tr ι
variable {ι : Type}
def Tr.Lt (a b : Tr ι) : Prop := ∃ f x, b = .node f ∧ a = f x
theorem Tr.lt_node (f : ι → Tr ι) (x : ι) : Tr.Lt (f x) (.node f) := ⟨f, x, rfl, rfl⟩
theorem Tr.acc (t : Tr ι) : Acc Tr.Lt t := by
  induction t with
  | leaf => exact ⟨_, fun a h => by obtain ⟨f, x, h1, _⟩ := h; cases h1⟩
  | node f ih =>
    refine ⟨_, fun a h => ?_⟩
    obtain ⟨f', x, h1, h2⟩ := h
    cases h1
    rw [h2]; exact ih x
def Tr.nat : Nat → Tr ι
  | 0 => .leaf
  | n + 1 => .node fun _ => Tr.nat n
theorem Tr.nat_lt [Inhabited ι] (n : Nat) : Tr.Lt (Tr.nat n : Tr ι) (Tr.nat (n + 1)) := ⟨_, default, rfl, rfl⟩
def BagLt (n : Nat) (a b : Nat → Tr ι) : Prop := ∃ i, i < n ∧ Tr.Lt (a i) (b i) ∧ ∀ j, j ≠ i → a j = b j
theorem bag_acc : ∀ (n : Nat) (f : Nat → Tr ι), Acc (BagLt n) f
  | 0, f => ⟨_, fun a h => by obtain ⟨i, hi, _⟩ := h; omega⟩
  | n + 1, f => by
    have key : ∀ t : Tr ι, Acc Tr.Lt t → ∀ f : Nat → Tr ι, f n = t → Acc (BagLt (n + 1)) f := by
      intro t ht
      induction ht with
      | intro t _ ih1 =>
        intro f hf
        have h2 := bag_acc n f
        induction h2 with
        | intro f _ ih2 =>
          refine ⟨_, fun a h => ?_⟩
          obtain ⟨i, hi, hlt, ho⟩ := h
          by_cases e : i = n
          · subst e
            exact ih1 (a i) (by rw [← hf]; exact hlt) a rfl
          · exact ih2 a ⟨i, by omega, hlt, ho⟩ (by rw [ho n (Ne.symm e)]; exact hf)
    exact key _ (Tr.acc _) f rfl
structure Ms (ι : Type) where
  m : Tr ι
  n : Nat
  f : Nat → Tr ι
  k : Nat
def Ms.Lt (a b : Ms ι) : Prop := Tr.Lt a.m b.m ∨ (a.m = b.m ∧ a.n = b.n ∧ BagLt b.n a.f b.f) ∨ (a.m = b.m ∧ a.n = b.n ∧ a.f = b.f ∧ a.k < b.k)
theorem Ms.wf : WellFounded (Ms.Lt (ι := ι)) := by
  refine ⟨fun a => ?_⟩
  have h1 : ∀ m : Tr ι, Acc Tr.Lt m → ∀ n f k, Acc Ms.Lt (⟨m, n, f, k⟩ : Ms ι) := by
    intro m hm
    induction hm with
    | intro m _ ih1 =>
      intro n f
      have hf := bag_acc n f
      induction hf with
      | intro f _ ih2 =>
        intro k
        induction k using Nat.strongRecOn with
        | _ k ih3 =>
          refine ⟨_, fun b h => ?_⟩
          obtain ⟨bm, bn, bf, bk⟩ := b
          rcases h with h | ⟨h1, h2, h3⟩ | ⟨h1, h2, h3, h4⟩
          · exact ih1 bm h bn bf bk
          · simp only at h1 h2 h3
            subst h1 h2
            exact ih2 bf h3 bk
          · simp only at h1 h2 h3 h4
            subst h1 h2 h3
            exact ih3 bk h4
  exact h1 a.m (Tr.acc _) a.n a.f a.k
/-- of trees there is one for each way -/
theorem Tr.pick {p : ι → Prop} {Q : ι → Tr ι → Prop} (h : ∀ x, p x → ∃ T, Q x T) : ∃ f : ι → Tr ι, ∀ x, p x → Q x (f x) := by
  have : ∀ x, ∃ T, p x → Q x T := fun x => by
    by_cases hx : p x
    · obtain ⟨T, hT⟩ := h x hx
      exact ⟨T, fun _ => hT⟩
    · exact ⟨.leaf, fun c => absurd c hx⟩
  exact ⟨fun x => (this x).choose, fun x => (this x).choose_spec⟩
end Cr
end
