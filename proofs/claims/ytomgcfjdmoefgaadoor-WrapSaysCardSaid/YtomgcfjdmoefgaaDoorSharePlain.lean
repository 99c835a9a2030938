/- PLAIN LAW: loads of machines; Graham; the longest first (no program in sight). -/
namespace SharePlain

/-! ### sums by machine -/
/-- what machine `i` has to do, of jobs with times and machines -/
def msum (i : Nat) : List (Int × Nat) → Int
  | [] => 0
  | (t, k) :: l => (if k = i then t else 0) + msum i l
/-- all machines together -/
def tsum : List (Int × Nat) → Int
  | [] => 0
  | (t, _) :: l => t + tsum l
/-- a sum over the machines below `m` -/
def upto (m : Nat) (f : Nat → Int) : Int := match m with
  | 0 => 0
  | m + 1 => upto m f + f m

theorem upto_add (m : Nat) (f g : Nat → Int) : upto m (fun i => f i + g i) = upto m f + upto m g := by
  induction m with
  | zero => rfl
  | succ m ih => simp only [upto, ih]; omega
theorem upto_zero (m : Nat) : upto m (fun _ => 0) = 0 := by
  induction m with
  | zero => rfl
  | succ m ih => simp only [upto, ih]; omega
theorem upto_le (m : Nat) (f g : Nat → Int) (h : ∀ i, i < m → f i ≤ g i) : upto m f ≤ upto m g := by
  induction m with
  | zero => simp [upto]
  | succ m ih =>
    have a := ih (fun i hi => h i (by omega))
    have b := h m (by omega)
    simp only [upto]; omega
theorem upto_congr (m : Nat) (f g : Nat → Int) (h : ∀ i, i < m → f i = g i) : upto m f = upto m g := by
  have a := upto_le m f g (fun i hi => by rw [h i hi]; exact Int.le_refl _)
  have b := upto_le m g f (fun i hi => by rw [h i hi]; exact Int.le_refl _)
  omega
theorem upto_const (m : Nat) (c : Int) : upto m (fun _ => c) = m * c := by
  induction m with
  | zero => simp [upto]
  | succ m ih => simp only [upto, ih]; rw [Int.natCast_succ, Int.add_mul]; omega
theorem upto_one (m k : Nat) (hk : k < m) (t : Int) : upto m (fun i => if k = i then t else 0) = t := by
  induction m with
  | zero => omega
  | succ m ih =>
    simp only [upto]
    by_cases e : k = m
    · subst e
      have : upto k (fun i => if k = i then t else 0) = 0 :=
        (upto_congr k _ (fun _ => 0) (fun i hi => by rw [if_neg (by omega)])).trans (upto_zero k)
      rw [this]; simp
    · rw [ih (by omega), if_neg e]; omega

theorem upto_msum (m : Nat) (l : List (Int × Nat)) (h : ∀ x ∈ l, x.2 < m) : upto m (fun i => msum i l) = tsum l := by
  induction l with
  | nil => simp only [msum, tsum]; exact upto_zero m
  | cons a l ih =>
    obtain ⟨t, k⟩ := a
    simp only [msum, tsum]
    rw [upto_add, upto_one m k (h (t, k) (by simp)), ih (fun x hx => h x (List.mem_cons_of_mem _ hx))]

theorem msum_append (i : Nat) (l l' : List (Int × Nat)) : msum i (l ++ l') = msum i l + msum i l' := by
  induction l with
  | nil => simp [msum]
  | cons a l ih => obtain ⟨t, k⟩ := a; simp only [List.cons_append, msum, ih]; omega
theorem tsum_append (l l' : List (Int × Nat)) : tsum (l ++ l') = tsum l + tsum l' := by
  induction l with
  | nil => simp [tsum]
  | cons a l ih => obtain ⟨t, k⟩ := a; simp only [List.cons_append, tsum, ih]; omega
theorem msum_perm {i : Nat} {l l' : List (Int × Nat)} (h : l.Perm l') : msum i l = msum i l' := by
  induction h with
  | nil => rfl
  | cons x _ ih => obtain ⟨t, k⟩ := x; simp only [msum, ih]
  | swap x y l => obtain ⟨t, k⟩ := x; obtain ⟨t', k'⟩ := y; simp only [msum]; omega
  | trans _ _ h1 h2 => rw [h1, h2]
theorem msum_nonneg (i : Nat) (l : List (Int × Nat)) (h : ∀ x ∈ l, 0 ≤ x.1) : 0 ≤ msum i l := by
  induction l with
  | nil => simp [msum]
  | cons a l ih =>
    obtain ⟨t, k⟩ := a
    have h1 := h (t, k) (by simp)
    have h2 := ih (fun x hx => h x (List.mem_cons_of_mem _ hx))
    simp only [msum]; simp only at h1; split <;> omega
theorem msum_ge (i : Nat) (l : List (Int × Nat)) (h : ∀ x ∈ l, 0 ≤ x.1) (t : Int) (hx : (t, i) ∈ l) : t ≤ msum i l := by
  induction l with
  | nil => simp at hx
  | cons a l ih =>
    obtain ⟨t', k⟩ := a
    have h1 := h (t', k) (by simp)
    have h3 := msum_nonneg i l (fun x hx => h x (List.mem_cons_of_mem _ hx))
    simp only at h1
    simp only [msum]
    rcases List.mem_cons.1 hx with e | hx
    · simp only [Prod.mk.injEq] at e
      obtain ⟨rfl, rfl⟩ := e
      rw [if_pos rfl]; omega
    · have h2 := ih (fun x hx => h x (List.mem_cons_of_mem _ hx)) hx
      split <;> omega

/-- GRAHAM's step: a job that goes to the machine that has least to do -/
theorem graham_step (m : Nat) (l : List (Int × Nat)) (hl : ∀ x ∈ l, x.2 < m) (k : Nat)
    (hmin : ∀ i, i < m → msum k l ≤ msum i l) : m * (msum k l) ≤ tsum l := by
  have h := upto_le m (fun _ => msum k l) (fun i => msum i l) hmin
  rw [upto_const, upto_msum m l hl] at h
  exact h

/-- THE WEIGHTS: if a job of at least a third of `K` doesn't fit where least is to do, the jobs fit in no way -/
def wsum (i : Nat) (p K : Int) : List (Int × Nat) → Int
  | [] => 0
  | (t, k) :: l => (if k = i then (if t + p > K then 2 else 1) else 0) + wsum i p K l
def wtot (p K : Int) : List Int → Int
  | [] => 0
  | t :: l => (if t + p > K then 2 else 1) + wtot p K l
theorem wsum_nonneg (i : Nat) (p K : Int) (l : List (Int × Nat)) : 0 ≤ wsum i p K l := by
  induction l with
  | nil => simp [wsum]
  | cons a l ih => obtain ⟨t, k⟩ := a; simp only [wsum]; split <;> (try split) <;> omega
theorem upto_wsum (m : Nat) (p K : Int) (l : List (Int × Nat)) (h : ∀ x ∈ l, x.2 < m) : upto m (fun i => wsum i p K l) = wtot p K (l.map (·.1)) := by
  induction l with
  | nil => simp only [wsum, wtot, List.map_nil]; exact upto_zero m
  | cons a l ih =>
    obtain ⟨t, k⟩ := a
    simp only [wsum, wtot, List.map_cons]
    rw [upto_add, upto_one m k (h (t, k) (by simp)), ih (fun x hx => h x (List.mem_cons_of_mem _ hx))]
theorem wtot_perm {p K : Int} {l l' : List Int} (h : l.Perm l') : wtot p K l = wtot p K l' := by
  induction h with
  | nil => rfl
  | cons x _ ih => simp only [wtot, ih]
  | swap x y l => simp only [wtot]; omega
  | trans _ _ h1 h2 => rw [h1, h2]
theorem wtot_append (p K : Int) (l l' : List Int) : wtot p K (l ++ l') = wtot p K l + wtot p K l' := by
  induction l with
  | nil => simp [wtot]
  | cons a l ih => simp only [List.cons_append, wtot, ih]; omega

/-- where the sum is at most K, of jobs that each take more than a third, the weight is at most 2 -/
theorem wsum_le (i : Nat) (p K : Int) (hp : K < 3 * p) (l : List (Int × Nat)) (hbig : ∀ x ∈ l, p ≤ x.1) (hK : msum i l ≤ K) (hK0 : 0 ≤ K) : wsum i p K l ≤ 2 := by
  -- generalized: weight w already, sum s already
  have hp0 : 0 < p := by omega
  have key : ∀ l : List (Int × Nat), (∀ x ∈ l, p ≤ x.1) →
      (wsum i p K l = 0 ∧ msum i l = 0) ∨ (wsum i p K l = 1 ∧ p ≤ msum i l) ∨ (wsum i p K l = 2 ∧ (K < msum i l + p ∨ 2 * p ≤ msum i l)) ∨ (K < msum i l) := by
    intro l hb
    induction l with
    | nil => left; simp [wsum, msum]
    | cons a l ih =>
      obtain ⟨t, k⟩ := a
      have h1 := hb (t, k) (by simp)
      simp only at h1
      have ih := ih (fun x hx => hb x (List.mem_cons_of_mem _ hx))
      simp only [wsum, msum]
      by_cases e : k = i
      · rw [if_pos e, if_pos e]
        by_cases c : t + p > K
        · rw [if_pos c]
          rcases ih with ⟨a, b⟩ | ⟨a, b⟩ | ⟨a, b⟩ | b <;> omega
        · rw [if_neg c]
          rcases ih with ⟨a, b⟩ | ⟨a, b⟩ | ⟨a, b⟩ | b <;> omega
      · rw [if_neg e, if_neg e]
        simpa using ih
  rcases key l hbig with ⟨a, _⟩ | ⟨a, _⟩ | ⟨a, _⟩ | b <;> omega

/-- where one job more does not fit, the weight is at least 2 -/
theorem wsum_ge (i : Nat) (p K : Int) (hpK : p ≤ K) (l : List (Int × Nat)) (hK : K < msum i l + p) : 2 ≤ wsum i p K l := by
  have key : ∀ l : List (Int × Nat), (wsum i p K l = 0 ∧ msum i l = 0) ∨ (wsum i p K l = 1 ∧ msum i l + p ≤ K) ∨ 2 ≤ wsum i p K l := by
    intro l
    induction l with
    | nil => left; simp [wsum, msum]
    | cons a l ih =>
      obtain ⟨t, k⟩ := a
      have w0 := wsum_nonneg i p K l
      simp only [wsum, msum]
      by_cases e : k = i
      · rw [if_pos e, if_pos e]
        by_cases c : t + p > K
        · rw [if_pos c]; right; right; omega
        · rw [if_neg c]
          rcases ih with ⟨a, b⟩ | ⟨a, b⟩ | b <;> omega
      · rw [if_neg e, if_neg e]
        simpa using ih
  rcases key l with ⟨a, b⟩ | ⟨a, b⟩ | b <;> omega

/-- GRAHAM, 1969: where every job ahead is at least as long as `p`, and all (with `p`) can be done by `K`, then a job of more than a third of `K` that goes to the machine with least to do is done by `K` -/
theorem lpt_fits (m : Nat) (l : List (Int × Nat)) (hl : ∀ x ∈ l, x.2 < m) (p K : Int) (k : Nat) (hp : K < 3 * p)
    (hmin : ∀ i, i < m → msum k l ≤ msum i l)
    (other : List (Int × Nat)) (ho : ∀ x ∈ other, x.2 < m) (hperm : (other.map (·.1)).Perm (l.map (·.1) ++ [p])) (hbig : ∀ x ∈ l, p ≤ x.1)
    (hK : ∀ i, i < m → msum i other ≤ K) (hK0 : 0 ≤ K) (hpK : p ≤ K) : msum k l + p ≤ K := by
  rcases Int.lt_or_le K (msum k l + p) with h | h
  · exfalso
    have a : upto m (fun _ => 2) ≤ upto m (fun i => wsum i p K l) := upto_le m _ _ (fun i hi => wsum_ge i p K hpK l (by have := hmin i hi; omega))
    have hb' : ∀ x ∈ other, p ≤ x.1 := by
      intro x hx
      have : x.1 ∈ l.map (·.1) ++ [p] := hperm.mem_iff.1 (List.mem_map.2 ⟨x, hx, rfl⟩)
      rcases List.mem_append.1 this with h1 | h1
      · obtain ⟨y, hy, e⟩ := List.mem_map.1 h1
        have := hbig y hy; omega
      · have := List.mem_singleton.1 h1; omega
    have b : upto m (fun i => wsum i p K other) ≤ upto m (fun _ => 2) := upto_le m _ _ (fun i hi => wsum_le i p K hp other hb' (hK i hi) hK0)
    rw [upto_wsum m p K l hl] at a
    rw [upto_wsum m p K other ho, wtot_perm hperm, wtot_append] at b
    have : 1 ≤ wtot p K [p] := by simp only [wtot]; split <;> omega
    omega
  · exact h
end SharePlain
