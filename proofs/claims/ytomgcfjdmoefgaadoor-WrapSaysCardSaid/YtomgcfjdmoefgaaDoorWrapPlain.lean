/- PLAIN LAW: plans of pieces (no program in sight). -/
namespace WrapPlain

structure Pc where
  m : Int
  j : Int
  f : Int
  t : Int

/-! ### lengths of what does not meet -/
def len (p : Pc) : Int := p.t - p.f
def total : List Pc → Int
  | [] => 0
  | p :: l => len p + total l
/-- a sum over the times below `n` -/
def upto (f : Nat → Int) : Nat → Int
  | 0 => 0
  | n + 1 => upto f n + f n
theorem upto_add (f g : Nat → Int) (n : Nat) : upto (fun i => f i + g i) n = upto f n + upto g n := by
  induction n with
  | zero => rfl
  | succ n ih => simp only [upto, ih]; omega
theorem upto_zero (n : Nat) : upto (fun _ => 0) n = 0 := by
  induction n with
  | zero => rfl
  | succ n ih => simp only [upto, ih]; omega
def ind (p : Pc) (x : Nat) : Int := if p.f ≤ x ∧ (x : Int) < p.t then 1 else 0
def cnt (x : Nat) : List Pc → Int
  | [] => 0
  | p :: l => ind p x + cnt x l
theorem upto_ind (p : Pc) (h0 : 0 ≤ p.f) (n : Nat) : upto (ind p) n = max 0 (min p.t n - min p.f n) := by
  induction n with
  | zero => simp only [upto]; omega
  | succ n ih =>
    simp only [upto, ih, ind]
    split <;> omega
theorem upto_le (f : Nat → Int) (h : ∀ x, f x ≤ 1) (n : Nat) : upto f n ≤ n := by
  induction n with
  | zero => simp [upto]
  | succ n ih => have := h n; simp only [upto]; omega
theorem upto_cnt (l : List Pc) (n : Nat) : upto (fun x => cnt x l) n = (l.map fun p => upto (ind p) n).sum := by
  induction l with
  | nil => exact upto_zero n
  | cons p l ih =>
    simp only [List.map_cons, List.sum_cons, ← ih, cnt]
    exact upto_add _ _ n
/-- two pieces have a time in common -/
def Meet (p q : Pc) : Prop := p.f < q.t ∧ q.f < p.t
instance (p q : Pc) : Decidable (Meet p q) := inferInstanceAs (Decidable (_ ∧ _))

theorem cnt_zero (x : Nat) (p : Pc) (c : p.f ≤ x ∧ (x : Int) < p.t) (l : List Pc) (h1 : ∀ q ∈ l, ¬ Meet p q) : cnt x l = 0 := by
  induction l with
  | nil => rfl
  | cons q l ih =>
    have hq := h1 q (by simp)
    have := ih (fun r hr => h1 r (List.mem_cons_of_mem _ hr))
    simp only [cnt, this, ind]
    rw [if_neg]; · omega
    intro hc
    exact hq ⟨by omega, by omega⟩
theorem cnt_le (x : Nat) (l : List Pc) (h : l.Pairwise fun p q => ¬ Meet p q) : cnt x l ≤ 1 ∧ 0 ≤ cnt x l := by
  induction l with
  | nil => simp [cnt]
  | cons p l ih =>
    rw [List.pairwise_cons] at h
    have ih := ih h.2
    simp only [cnt]
    by_cases c : p.f ≤ x ∧ (x : Int) < p.t
    · have z : cnt x l = 0 := cnt_zero x p c l h.1
      simp only [ind]; rw [if_pos c]; omega
    · simp only [ind]; rw [if_neg c]; omega

/-- what does not meet and lies between 0 and `by` is not longer than `by` -/
theorem total_le (l : List Pc) (b : Int) (hv : ∀ p ∈ l, 0 ≤ p.f ∧ p.f < p.t ∧ p.t ≤ b) (h : l.Pairwise fun p q => ¬ Meet p q) (hb : 0 ≤ b) : total l ≤ b := by
  have a := upto_le (fun x => cnt x l) (fun x => (cnt_le x l h).1) b.toNat
  rw [upto_cnt] at a
  have e : (l.map fun p => upto (ind p) b.toNat).sum = total l := by
    clear a h
    induction l with
    | nil => rfl
    | cons p l ih =>
      simp only [List.map_cons, List.sum_cons, total, len]
      rw [ih (fun q hq => hv q (List.mem_cons_of_mem _ hq))]
      obtain ⟨v1, v2, v3⟩ := hv p (by simp)
      rw [upto_ind p v1]
      omega
  omega

/-! ### plans -/
/-- what is done of job `k` -/
def done (k : Nat) : List Pc → Int
  | [] => 0
  | p :: l => (if p.j = k then len p else 0) + done k l
/-- what machine `k` does -/
def mach (k : Nat) : List Pc → Int
  | [] => 0
  | p :: l => (if p.m = k then len p else 0) + mach k l

def Clash (p q : Pc) : Prop := (p.m = q.m ∨ p.j = q.j) ∧ Meet p q
instance (p q : Pc) : Decidable (Clash p q) := inferInstanceAs (Decidable (_ ∧ _))

/-- a piece that may be -/
def Fine (N m : Nat) (b : Int) (p : Pc) : Prop := 0 ≤ p.m ∧ p.m < m ∧ 0 ≤ p.j ∧ p.j < N ∧ 0 ≤ p.f ∧ p.f < p.t ∧ p.t ≤ b
instance (N m : Nat) (b : Int) (p : Pc) : Decidable (Fine N m b p) := inferInstanceAs (Decidable (_ ∧ _ ∧ _ ∧ _ ∧ _ ∧ _ ∧ _))

structure Plan (times : List Int) (m : Nat) (l : List Pc) (b : Int) : Prop where
  fine : ∀ p ∈ l, Fine times.length m b p
  apart : l.Pairwise fun p q => ¬ Clash p q
  all : ∀ k, k < times.length → done k l = times.getD k 0

theorem done_filter (k : Nat) (l : List Pc) : done k l = total (l.filter fun p => decide (p.j = k)) := by
  induction l with
  | nil => rfl
  | cons p l ih =>
    simp only [done, List.filter_cons, ih]
    by_cases c : p.j = k
    · simp [c, total]
    · simp [c]
theorem mach_filter (k : Nat) (l : List Pc) : mach k l = total (l.filter fun p => decide (p.m = k)) := by
  induction l with
  | nil => rfl
  | cons p l ih =>
    simp only [mach, List.filter_cons, ih]
    by_cases c : p.m = k
    · simp [c, total]
    · simp [c]

theorem pair_filter (l : List Pc) (P : Pc → Bool) (hP : ∀ p q, P p = true → P q = true → p.m = q.m ∨ p.j = q.j) (h : l.Pairwise fun p q => ¬ Clash p q) :
    (l.filter P).Pairwise fun p q => ¬ Meet p q := by
  induction l with
  | nil => simp
  | cons p l ih =>
    rw [List.pairwise_cons] at h
    rw [List.filter_cons]
    by_cases c : P p = true
    · rw [if_pos c, List.pairwise_cons]
      refine ⟨fun q hq hm => ?_, ih h.2⟩
      rw [List.mem_filter] at hq
      exact h.1 q hq.1 ⟨hP p q c hq.2, hm⟩
    · rw [if_neg c]; exact ih h.2

theorem upto_one (c : Int) (k m : Nat) (hk : k < m) : upto (fun i => if k = i then c else 0) m = c := by
  induction m with
  | zero => omega
  | succ m ih =>
    simp only [upto]
    by_cases e : k = m
    · subst e
      have : upto (fun i => if k = i then c else 0) k = 0 := by
        clear ih
        have : ∀ n, n ≤ k → upto (fun i => if k = i then c else 0) n = 0 := by
          intro n hn
          induction n with
          | zero => rfl
          | succ n ih => simp only [upto, ih (by omega)]; rw [if_neg (by omega)]; omega
        exact this k (Nat.le_refl _)
      rw [this]; simp
    · rw [ih (by omega), if_neg e]; omega
theorem upto_mono (f g : Nat → Int) (n : Nat) (h : ∀ i, i < n → f i ≤ g i) : upto f n ≤ upto g n := by
  induction n with
  | zero => simp [upto]
  | succ n ih => have := ih (fun i hi => h i (by omega)); have := h n (by omega); simp only [upto]; omega
theorem upto_const (c : Int) (n : Nat) : upto (fun _ => c) n = n * c := by
  induction n with
  | zero => simp [upto]
  | succ n ih => simp only [upto, ih]; rw [Int.natCast_succ, Int.add_mul]; omega

theorem upto_done (l : List Pc) (N : Nat) (h : ∀ p ∈ l, 0 ≤ p.j ∧ p.j < N) : upto (fun k => done k l) N = total l := by
  induction l with
  | nil => simp only [done, total]; exact upto_zero N
  | cons p l ih =>
    simp only [done, total]
    have hp := h p (by simp)
    have e : (fun k : Nat => (if p.j = k then len p else 0) + done k l) = fun k : Nat => (if p.j.toNat = k then len p else 0) + done k l := by
      funext k
      congr 1
      by_cases c : p.j = k
      · rw [if_pos c, if_pos (by omega)]
      · rw [if_neg c, if_neg (by omega)]
    rw [e, upto_add, upto_one _ _ _ (by omega), ih (fun q hq => h q (List.mem_cons_of_mem _ hq))]
theorem upto_mach (l : List Pc) (m : Nat) (h : ∀ p ∈ l, 0 ≤ p.m ∧ p.m < m) : upto (fun k => mach k l) m = total l := by
  induction l with
  | nil => simp only [mach, total]; exact upto_zero m
  | cons p l ih =>
    simp only [mach, total]
    have hp := h p (by simp)
    have e : (fun k : Nat => (if p.m = k then len p else 0) + mach k l) = fun k : Nat => (if p.m.toNat = k then len p else 0) + mach k l := by
      funext k
      congr 1
      by_cases c : p.m = k
      · rw [if_pos c, if_pos (by omega)]
      · rw [if_neg c, if_neg (by omega)]
    rw [e, upto_add, upto_one _ _ _ (by omega), ih (fun q hq => h q (List.mem_cons_of_mem _ hq))]

theorem upto_getD (l : List Int) : upto (fun k => l.getD k 0) l.length = l.sum := by
  have key : ∀ n, n ≤ l.length → upto (fun k => l.getD k 0) n = (l.take n).sum := by
    intro n hn
    induction n with
    | zero => simp [upto]
    | succ n ih =>
      simp only [upto, ih (by omega)]
      rw [List.take_add_one, List.sum_append, List.getD_eq_getElem?_getD, List.getElem?_eq_getElem (by omega)]
      simp
  rw [key _ (Nat.le_refl _), List.take_length]

/-- NO PLAN IS DONE SOONER -/
theorem Plan.bound {times : List Int} {m : Nat} {l : List Pc} {b : Int} (h : Plan times m l b) (hpos : ∀ t ∈ times, 1 ≤ t) (hne : times ≠ []) :
    (∀ t ∈ times, t ≤ b) ∧ times.sum ≤ m * b := by
  have hb : 0 ≤ b := by
    cases l with
    | nil =>
      exfalso
      cases times with
      | nil => exact hne rfl
      | cons t ts =>
        have a := h.all 0 (by simp)
        have := hpos t (by simp)
        simp [done] at a
        omega
    | cons p l =>
      obtain ⟨_, _, _, _, a, b, c⟩ := h.fine p (by simp)
      omega
  have hv : ∀ p ∈ l, 0 ≤ p.f ∧ p.f < p.t ∧ p.t ≤ b := fun p hp => by obtain ⟨_, _, _, _, a, b, c⟩ := h.fine p hp; exact ⟨a, b, c⟩
  refine ⟨fun t ht => ?_, ?_⟩
  · obtain ⟨k, hk, rfl⟩ := List.mem_iff_getElem.1 ht
    have a := h.all k hk
    rw [List.getD_eq_getElem?_getD, List.getElem?_eq_getElem hk] at a
    simp only [Option.getD_some] at a
    rw [← a, done_filter]
    refine total_le _ b (fun p hp => hv p (List.mem_filter.1 hp).1) (pair_filter l _ (fun p q hp hq => .inr ?_) h.apart) hb
    have h1 := of_decide_eq_true hp
    have h2 := of_decide_eq_true hq
    omega
  · have a := upto_done l times.length (fun p hp => by obtain ⟨_, _, a, b, _⟩ := h.fine p hp; exact ⟨a, b⟩)
    have a' := upto_mach l m (fun p hp => by obtain ⟨a, b, _⟩ := h.fine p hp; exact ⟨a, b⟩)
    have e : upto (fun k => done k l) times.length = times.sum := by
      rw [← upto_getD]
      have e1 : ∀ n, n ≤ times.length → upto (fun k => done k l) n = upto (fun k => times.getD k 0) n := by
        intro n hn
        induction n with
        | zero => rfl
        | succ n ih => simp only [upto]; rw [ih (by omega), h.all n (by omega)]
      exact e1 _ (Nat.le_refl _)
    have f := upto_mono (fun k => mach k l) (fun _ => b) m (fun k _ => by
      show mach k l ≤ b
      rw [mach_filter]
      refine total_le _ b (fun p hp => hv p (List.mem_filter.1 hp).1) (pair_filter l _ (fun p q hp hq => .inl ?_) h.apart) hb
      have h1 := of_decide_eq_true hp
      have h2 := of_decide_eq_true hq
      omega)
    rw [upto_const] at f
    omega
end WrapPlain
