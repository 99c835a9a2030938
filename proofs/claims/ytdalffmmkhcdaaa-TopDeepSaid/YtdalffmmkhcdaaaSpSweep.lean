/- PLAIN LAW: as things happen: with an event for each end and each beginning, ends ahead of beginnings, there are at a time at most as many as there are spans at a time at most (no program in sight). -/
import Derived.Test.YtdalffmmkhcdaaaSpPlain
set_option linter.unusedVariables false
set_option linter.unusedSimpArgs false
namespace SpPlain
open SimPlain HeapPlain

/-- the events of the first k ends, of the first k beginnings -/
def endAt (l : List Ev) (i : Nat) : Ev := ⟨(l.getD i e0).id, 0, (i : Int) + 1⟩
def begAt (l : List Ev) (i : Nat) : Ev := ⟨(l.getD i e0).t, 1, (l.length : Int) + i + 1⟩
def ends (l : List Ev) (k : Nat) : List Ev := (List.range k).map (endAt l)
def begs (l : List Ev) (k : Nat) : List Ev := (List.range k).map (begAt l)
theorem ends_succ (l : List Ev) (k : Nat) : ends l (k + 1) = ends l k ++ [endAt l k] := by simp [ends, List.range_succ]
theorem begs_succ (l : List Ev) (k : Nat) : begs l (k + 1) = begs l k ++ [begAt l k] := by simp [begs, List.range_succ]
/-- one more of them, and at most that -/
def sweepB (s : Int × Int) (x : Ev) : Int × Int := (if x.id = 1 then s.1 + 1 else s.1 - 1, if s.2 < (if x.id = 1 then s.1 + 1 else s.1 - 1) then (if x.id = 1 then s.1 + 1 else s.1 - 1) else s.2)
def sweep (P : List Ev) : Int × Int := P.foldl sweepB (0, 0)
theorem sweep_snoc (P : List Ev) (x : Ev) : sweep (P ++ [x]) = sweepB (sweep P) x := by simp [sweep]
/-- how many there are now -/
def nowOf (P : List Ev) : Int := ((P.countP fun e => decide (e.id = 1) : Nat) : Int) - (P.countP fun e => decide (e.id = 0) : Nat)
theorem nowOf_snoc (P : List Ev) (x : Ev) : nowOf (P ++ [x]) = nowOf P + (if x.id = 1 then 1 else 0) - (if x.id = 0 then 1 else 0) := by
  unfold nowOf
  simp only [List.countP_append, List.countP_cons, List.countP_nil, decide_eq_true_eq]
  split <;> split <;> omega
theorem snoc_ind {α : Type} {p : List α → Prop} (h0 : p []) (h1 : ∀ P x, p P → p (P ++ [x])) (P : List α) : p P := by
  have : ∀ n (P : List α), P.length = n → p P := by
    intro n
    induction n with
    | zero => intro P h; rw [List.eq_nil_of_length_eq_zero h]; exact h0
    | succ n ih =>
      intro P h
      have hne : P ≠ [] := fun c => by rw [c] at h; simp at h
      rw [← List.dropLast_concat_getLast hne]
      exact h1 _ _ (ih _ (by rw [List.length_dropLast]; omega))
  exact this _ P rfl
theorem prefix_snoc {α : Type} {A P : List α} {x : α} (h : A <+: P ++ [x]) : A = P ++ [x] ∨ A <+: P := by
  obtain ⟨T, hT⟩ := h
  rcases List.eq_nil_or_concat T with rfl | ⟨T', y, rfl⟩
  · left; simpa using hT
  · right
    rw [List.concat_eq_append, ← List.append_assoc] at hT
    have := List.append_inj' hT rfl
    exact ⟨T', this.1⟩
theorem sweep_bounds (P : List Ev) : -(P.length : Int) ≤ (sweep P).1 ∧ (sweep P).1 ≤ P.length ∧ 0 ≤ (sweep P).2 ∧ (sweep P).2 ≤ P.length := by
  refine snoc_ind (p := fun P => -(P.length : Int) ≤ (sweep P).1 ∧ (sweep P).1 ≤ P.length ∧ 0 ≤ (sweep P).2 ∧ (sweep P).2 ≤ P.length) ⟨Int.le_refl _, Int.le_refl _, Int.le_refl _, Int.le_refl _⟩ (fun P x ih => ?_) P
  rw [sweep_snoc]
  have hl : ((P ++ [x]).length : Int) = P.length + 1 := by simp
  rw [hl]
  unfold sweepB
  generalize sweep P = s at *
  simp only
  split <;> split <;> omega
/-- what a sweep tells of its beginnings -/
theorem sweep_spec (P : List Ev) (h : ∀ e ∈ P, e.id = 0 ∨ e.id = 1) : (sweep P).1 = nowOf P ∧ (∀ A, A <+: P → nowOf A ≤ (sweep P).2) ∧ ∃ A, A <+: P ∧ (sweep P).2 = nowOf A := by
  revert h
  refine snoc_ind (p := fun P => (∀ e ∈ P, e.id = 0 ∨ e.id = 1) → (sweep P).1 = nowOf P ∧ (∀ A, A <+: P → nowOf A ≤ (sweep P).2) ∧ ∃ A, A <+: P ∧ (sweep P).2 = nowOf A) (fun _ => ⟨rfl, fun A hA => ?_, [], List.prefix_rfl, rfl⟩) (fun P x ih h => ?_) P
  · rw [List.prefix_nil.1 hA]; exact Int.le_refl _
  · obtain ⟨i1, i2, B, i3, i4⟩ := ih fun e he => h e (by simp [he])
    have hx := h x (by simp)
    have hn := nowOf_snoc P x
    have e1 : (if x.id = 1 then (sweep P).1 + 1 else (sweep P).1 - 1) = nowOf (P ++ [x]) := by
      rw [i1, hn]
      rcases hx with c | c
      · rw [if_neg (by omega), if_neg (by omega), if_pos c]; omega
      · rw [if_pos c, if_pos c, if_neg (by omega)]; omega
    have e2 : sweep (P ++ [x]) = (nowOf (P ++ [x]), if (sweep P).2 < nowOf (P ++ [x]) then nowOf (P ++ [x]) else (sweep P).2) := by
      rw [sweep_snoc, sweepB, e1]
    rw [e2]
    refine ⟨rfl, fun A hA => ?_, ?_⟩
    · rcases prefix_snoc hA with c | c
      · rw [c]; simp only; split <;> omega
      · have := i2 A c
        simp only; split <;> omega
    · simp only
      by_cases c : (sweep P).2 < nowOf (P ++ [x])
      · exact ⟨P ++ [x], List.prefix_rfl, by rw [if_pos c]⟩
      · exact ⟨B, i3.trans (List.prefix_append _ _), by rw [if_neg c]; exact i4⟩
/-- an event of the ends, or of the beginnings -/
theorem ev_kind {l W : List Ev} (hp : W.Perm (ends l l.length ++ begs l l.length)) {e : Ev} (he : e ∈ W) : (e.id = 0 ∧ e.s ≤ l.length) ∨ (e.id = 1 ∧ (l.length : Int) < e.s) := by
  rcases List.mem_append.1 (hp.mem_iff.1 he) with h | h
  · obtain ⟨i, hi, rfl⟩ := List.mem_map.1 h
    have := List.mem_range.1 hi
    exact .inl ⟨rfl, by show (i : Int) + 1 ≤ _; omega⟩
  · obtain ⟨i, hi, rfl⟩ := List.mem_map.1 h
    exact .inr ⟨rfl, by show _ < (l.length : Int) + i + 1; omega⟩
theorem count_map (l : List Ev) (f : Nat → Ev) (p q : Ev → Bool) (h : ∀ i, p (f i) = q (l.getD i e0)) : ((List.range l.length).map f).countP p = l.countP q := by
  have e2 : l = (List.range l.length).map fun i => l.getD i e0 := by
    apply List.ext_getElem
    · simp
    · intro i h1 h2
      simp [List.getD_eq_getElem?_getD, List.getElem?_eq_getElem h1]
  have e3 : l.countP q = ((List.range l.length).map fun i => l.getD i e0).countP q := congrArg (fun z => z.countP q) e2
  rw [e3, List.countP_map, List.countP_map]
  refine List.countP_congr fun i _ => ?_
  simp [h]
theorem count_zero {α : Type} (l : List α) (p : α → Bool) (h : ∀ e ∈ l, p e = false) : l.countP p = 0 := by
  rw [List.countP_eq_zero]
  intro e he
  rw [h e he]; decide
theorem begs_count {l W : List Ev} (hp : W.Perm (ends l l.length ++ begs l l.length)) (t : Int) : (W.countP fun e => decide (e.id = 1) && decide (e.t ≤ t)) = begun l t := by
  rw [hp.countP_eq, List.countP_append, count_zero (ends l l.length), Nat.zero_add]
  · exact count_map l (begAt l) _ _ fun i => by simp [begAt]
  · intro e he
    obtain ⟨i, _, rfl⟩ := List.mem_map.1 he
    simp [endAt]
theorem ends_count {l W : List Ev} (hp : W.Perm (ends l l.length ++ begs l l.length)) (t : Int) : (W.countP fun e => decide (e.id = 0) && decide (e.t ≤ t)) = ended l t := by
  rw [hp.countP_eq, List.countP_append, count_zero (begs l l.length), Nat.add_zero]
  · exact count_map l (endAt l) _ _ fun i => by simp [endAt]
  · intro e he
    obtain ⟨i, _, rfl⟩ := List.mem_map.1 he
    simp [begAt]
theorem late {q : List Ev} (h : q.Pairwise Lt) (t : Int) : ∀ e ∈ q.dropWhile (fun e => decide (e.t ≤ t)), t < e.t := by
  induction q with
  | nil => simp
  | cons x q ih =>
    rw [List.pairwise_cons] at h
    intro e he
    by_cases hx : x.t ≤ t
    · rw [List.dropWhile_cons_of_pos (by simpa using hx)] at he
      exact ih h.2 e he
    · rw [List.dropWhile_cons_of_neg (by simpa using hx)] at he
      rcases List.mem_cons.1 he with rfl | he
      · omega
      · have := h.1 e he
        unfold Lt at this
        omega
theorem soon (q : List Ev) (t : Int) : ∀ e ∈ q.takeWhile (fun e => decide (e.t ≤ t)), e.t ≤ t := by
  induction q with
  | nil => simp
  | cons x q ih =>
    intro e he
    by_cases hx : x.t ≤ t
    · rw [List.takeWhile_cons_of_pos (by simpa using hx)] at he
      rcases List.mem_cons.1 he with rfl | he
      · exact hx
      · exact ih e he
    · rw [List.takeWhile_cons_of_neg (by simpa using hx)] at he
      cases he
theorem sweep_all {l W : List Ev} (hp : W.Perm (ends l l.length ++ begs l l.length)) (hs : W.Pairwise Lt) (h0 : ∀ i, i < l.length → 0 ≤ (l.getD i e0).t ∧ (l.getD i e0).t ≤ 1000) : sweep W = (0, mostTo l 1001) := by
  have hk : ∀ e ∈ W, e.id = 0 ∨ e.id = 1 := fun e he => (ev_kind hp he).imp (fun h => h.1) (fun h => h.1)
  obtain ⟨s1, s2, A, s3, s4⟩ := sweep_spec W hk
  have hnow : nowOf W = 0 := by
    unfold nowOf
    have c1 : (W.countP fun e => decide (e.id = 1)) = l.length := by
      rw [hp.countP_eq, List.countP_append, count_zero (ends l l.length), Nat.zero_add]
      · rw [show begs l l.length = (List.range l.length).map (begAt l) from rfl, count_map l (begAt l) _ (fun _ => true) fun i => by simp [begAt]]
        simp
      · intro e he
        obtain ⟨i, _, rfl⟩ := List.mem_map.1 he
        simp [endAt]
    have c2 : (W.countP fun e => decide (e.id = 0)) = l.length := by
      rw [hp.countP_eq, List.countP_append, count_zero (begs l l.length), Nat.add_zero]
      · rw [show ends l l.length = (List.range l.length).map (endAt l) from rfl, count_map l (endAt l) _ (fun _ => true) fun i => by simp [endAt]]
        simp
      · intro e he
        obtain ⟨i, _, rfl⟩ := List.mem_map.1 he
        simp [begAt]
    omega
  -- no beginning of it tells more
  have hle : ∀ A : List Ev, A <+: W → nowOf A ≤ mostTo l 1001 := by
    refine snoc_ind (fun _ => mostTo_nonneg _ _) (fun P x ih hA => ?_)
    have hP := ih ((List.prefix_append P [x]).trans hA)
    obtain ⟨T, hT⟩ := hA
    have hxW : x ∈ W := by rw [← hT]; simp
    have hn := nowOf_snoc P x
    rcases ev_kind hp hxW with ⟨c, _⟩ | ⟨c, cs⟩
    · rw [hn, if_neg (by omega), if_pos c]; omega
    · have hsort := hs
      rw [← hT] at hsort
      have hbef : ∀ e ∈ P ++ [x], e.t ≤ x.t := fun e he => by
        rcases List.mem_append.1 he with d | d
        · have := (List.pairwise_append.1 (List.pairwise_append.1 hsort).1).2.2 e d x (List.mem_singleton.2 rfl)
          unfold Lt at this; omega
        · rw [List.mem_singleton.1 d]; exact Int.le_refl _
      have hbehind : ∀ e ∈ T, Lt x e := fun e he => (List.pairwise_append.1 hsort).2.2 x (by simp) e he
      have b1 : ((P ++ [x]).countP fun e => decide (e.id = 1)) ≤ begun l x.t := by
        rw [← begs_count hp x.t, ← hT, List.countP_append (l₁ := P ++ [x]) (l₂ := T)]
        refine Nat.le_trans (List.countP_mono_left fun e he h => ?_) (Nat.le_add_right _ _)
        simpa [hbef e he] using h
      have b2 : ended l x.t ≤ ((P ++ [x]).countP fun e => decide (e.id = 0)) := by
        rw [← ends_count hp x.t, ← hT, List.countP_append, count_zero T, Nat.add_zero]
        · exact List.countP_mono_left fun e _ h => by
            simp at h ⊢; exact h.1
        · intro e he
          have h1 := hbehind e he
          have h2 := ev_kind hp (show e ∈ W by rw [← hT]; simp [he])
          rw [Bool.and_eq_false_iff]
          rcases h2 with ⟨d, ds⟩ | ⟨d, _⟩
          · right
            unfold Lt at h1
            simp; omega
          · left; simp [d]
      obtain ⟨i, hi, hx⟩ : ∃ i, i < l.length ∧ x = begAt l i := by
        rcases List.mem_append.1 (hp.mem_iff.1 hxW) with d | d
        · obtain ⟨i, _, rfl⟩ := List.mem_map.1 d
          exact absurd c (by simp [endAt])
        · obtain ⟨i, hi, rfl⟩ := List.mem_map.1 d
          exact ⟨i, List.mem_range.1 hi, rfl⟩
      obtain ⟨g0, g1⟩ := h0 i hi
      have hxt : x.t = (l.getD i e0).t := by rw [hx]; rfl
      obtain ⟨t, ht⟩ : ∃ t : Nat, x.t = t := ⟨x.t.toNat, by rw [hxt]; omega⟩
      have h4 := mostTo_ge l (show t < 1001 by omega)
      have h5 : act l x.t = (begun l x.t : Int) - ended l x.t := rfl
      have h6 : nowOf (P ++ [x]) = (((P ++ [x]).countP fun e => decide (e.id = 1) : Nat) : Int) - ((P ++ [x]).countP fun e => decide (e.id = 0) : Nat) := rfl
      rw [ht] at h5 b1 b2
      omega
  -- some beginning tells as much
  have hge : ∀ j : Nat, j < 1001 → act l j ≤ (sweep W).2 := fun j _ => by
    have hpre := List.takeWhile_prefix (l := W) (fun e => decide (e.t ≤ (j : Int)))
    have h1 := s2 _ hpre
    have hW : W = W.takeWhile (fun e => decide (e.t ≤ (j : Int))) ++ W.dropWhile (fun e => decide (e.t ≤ (j : Int))) := List.takeWhile_append_dropWhile.symm
    have hlate : ∀ e ∈ W.dropWhile (fun e => decide (e.t ≤ (j : Int))), (j : Int) < e.t := late hs j
    have hsoon : ∀ e ∈ W.takeWhile (fun e => decide (e.t ≤ (j : Int))), e.t ≤ (j : Int) := soon W j
    have c1 := begs_count hp (j : Int)
    have c2 := ends_count hp (j : Int)
    rw [hW, List.countP_append, count_zero (W.dropWhile _), Nat.add_zero] at c1 c2
    · have d1 : ((W.takeWhile fun e => decide (e.t ≤ (j : Int))).countP fun e => decide (e.id = 1)) = begun l j := by
        rw [← c1]
        refine List.countP_congr fun e he => ?_
        simp [hsoon e he]
      have d2 : ((W.takeWhile fun e => decide (e.t ≤ (j : Int))).countP fun e => decide (e.id = 0)) = ended l j := by
        rw [← c2]
        refine List.countP_congr fun e he => ?_
        simp [hsoon e he]
      unfold nowOf at h1
      rw [d1, d2] at h1
      exact h1
    all_goals
      intro e he
      have := hlate e he
      rw [Bool.and_eq_false_iff]
      right; simp; omega
  have h1 := hle A s3
  have h2 := mostTo_least l 1001 (sweep W).2 (by have := s2 [] (List.nil_prefix); exact this) hge
  refine Prod.ext (by rw [s1, hnow]) ?_
  show (sweep W).2 = _
  omega
end SpPlain
