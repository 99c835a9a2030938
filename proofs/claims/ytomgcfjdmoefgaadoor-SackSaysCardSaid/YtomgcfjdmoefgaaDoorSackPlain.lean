/- PLAIN LAW: goods in a sack (no program in sight). -/
namespace SackPlain

structure Gd where
  w : Int
  v : Int
deriving DecidableEq
def g0 : Gd := ⟨1, 0⟩

/-- the most that goods are worth that weigh no more than `r` -/
def most : List Gd → Int → Int
  | [], _ => 0
  | g :: l, r => if g.w ≤ r then max (most l r) (most l (r - g.w) + g.v) else most l r
def weigh : List Gd → List Bool → Int
  | g :: l, b :: bs => (if b then g.w else 0) + weigh l bs
  | _, _ => 0
def worth : List Gd → List Bool → Int
  | g :: l, b :: bs => (if b then g.v else 0) + worth l bs
  | _, _ => 0
structure Ok (l : List Gd) : Prop where
  all : ∀ g ∈ l, 1 ≤ g.w ∧ g.w ≤ 300 ∧ 0 ≤ g.v ∧ g.v ≤ 1000
  short : l.length ≤ 16
theorem weigh_nonneg (l : List Gd) (hw : ∀ g ∈ l, 0 ≤ g.w) : ∀ bs, 0 ≤ weigh l bs := by
  induction l with
  | nil => intro bs; cases bs <;> simp [weigh]
  | cons g l ih =>
    intro bs
    cases bs with
    | nil => simp [weigh]
    | cons b bs =>
      have := ih (fun g hg => hw g (by simp [hg])) bs
      have := hw g (by simp)
      simp only [weigh]; split <;> omega
theorem most_nonneg (l : List Gd) (hv : ∀ g ∈ l, 0 ≤ g.v) : ∀ r, 0 ≤ most l r := by
  induction l with
  | nil => intro r; simp [most]
  | cons g l ih =>
    intro r
    have h1 := ih (fun g hg => hv g (by simp [hg])) r
    simp only [most]; split <;> omega
theorem most_le (l : List Gd) (V : Int) (hV : 0 ≤ V) (hv : ∀ g ∈ l, g.v ≤ V) : ∀ r, most l r ≤ V * l.length := by
  induction l with
  | nil => intro r; simp [most]
  | cons g l ih =>
    intro r
    have h1 := ih (fun g hg => hv g (by simp [hg])) r
    have h2 := ih (fun g hg => hv g (by simp [hg])) (r - g.w)
    have h3 := hv g (by simp)
    have h4 : V * ((g :: l).length : Int) = V * (l.length : Int) + V := by rw [List.length_cons, Int.natCast_succ, Int.mul_add, Int.mul_one]
    rw [h4]
    simp only [most]; split <;> omega
/-- no other goods that fit are worth more -/
theorem most_best (l : List Gd) (hw : ∀ g ∈ l, 0 ≤ g.w) : ∀ (r : Int) (bs : List Bool), 0 ≤ r → weigh l bs ≤ r → worth l bs ≤ most l r := by
  induction l with
  | nil => intro r bs _ _; cases bs <;> simp [worth, most]
  | cons g l ih =>
    intro r bs hr h
    cases bs with
    | nil =>
      have := ih (fun g hg => hw g (by simp [hg])) r [] hr (by simpa [weigh] using hr)
      have e : worth l [] = 0 := by cases l <;> rfl
      rw [e] at this
      simp only [worth, most]; split <;> omega
    | cons b bs =>
      have hg := hw g (by simp)
      have hn := weigh_nonneg l (fun g hg => hw g (by simp [hg])) bs
      simp only [weigh] at h
      cases b with
      | false =>
        have := ih (fun g hg => hw g (by simp [hg])) r bs hr (by simpa using h)
        simp only [worth, most]
        simp only [Bool.false_eq_true, if_false]
        split <;> omega
      | true =>
        simp only [if_true] at h
        have := ih (fun g hg => hw g (by simp [hg])) (r - g.w) bs (by omega) (by omega)
        simp only [worth, most, if_true]
        rw [if_pos (by omega)]
        omega

/-! ### the goods that are told -/
/-- the goods told from place `i` on (`n`: the whole list's) -/
def told : List Gd → Int → List Bool
  | [], _ => []
  | g :: l, r => if g.w ≤ r ∧ most l (r - g.w) + g.v = most (g :: l) r then true :: told l (r - g.w) else false :: told l r
theorem told_length (l : List Gd) : ∀ r, (told l r).length = l.length := by
  induction l with
  | nil => intro r; rfl
  | cons g l ih => intro r; simp only [told]; split <;> simp [ih]
theorem told_weigh (l : List Gd) : ∀ r, 0 ≤ r → weigh l (told l r) ≤ r := by
  induction l with
  | nil => intro r h; simpa [told, weigh] using h
  | cons g l ih =>
    intro r h
    simp only [told]
    split
    · rename_i hc
      have := ih (r - g.w) (by omega)
      simp only [weigh, if_true]; omega
    · have := ih r h
      simp only [weigh, Bool.false_eq_true, if_false]; omega
theorem told_worth (l : List Gd) : ∀ r, worth l (told l r) = most l r := by
  induction l with
  | nil => intro r; simp [worth, most]
  | cons g l ih =>
    intro r
    simp only [told]
    split
    · rename_i hc
      simp only [worth, if_true, ih]; omega
    · rename_i hc
      simp only [worth, Bool.false_eq_true, if_false, ih]
      simp only [most] at hc ⊢
      split
      · rename_i h1
        rw [if_pos h1] at hc
        have h2 : ¬ (most l (r - g.w) + g.v = max (most l r) (most l (r - g.w) + g.v)) := fun e => hc ⟨h1, e⟩
        omega
      · omega

/-! ### cut by value for weight -/
def partW : List Gd → List Int → Int
  | g :: l, p :: ps => p * g.w + partW l ps
  | _, _ => 0
def partV : List Gd → List Int → Int
  | g :: l, p :: ps => p * g.v + partV l ps
  | _, _ => 0
end SackPlain
namespace SackPlain
def S (f : Nat → Int) (A : List Nat) : Int := (A.map f).sum
theorem S_nil (f : Nat → Int) : S f [] = 0 := rfl
theorem S_cons (f : Nat → Int) (i : Nat) (A : List Nat) : S f (i :: A) = f i + S f A := by simp [S]
theorem S_append (f : Nat → Int) (A B : List Nat) : S f (A ++ B) = S f A + S f B := by
  induction A with
  | nil => simp [S_nil]
  | cons i A ih => rw [List.cons_append, S_cons, S_cons, ih]; omega
theorem S_le {f g : Nat → Int} {A : List Nat} (h : ∀ i ∈ A, f i ≤ g i) : S f A ≤ S g A := by
  induction A with
  | nil => simp [S_nil]
  | cons i A ih =>
    have := ih fun j hj => h j (by simp [hj])
    have := h i (by simp)
    rw [S_cons, S_cons]; omega
theorem S_add (f g : Nat → Int) (A : List Nat) : S (fun i => f i + g i) A = S f A + S g A := by
  induction A with
  | nil => simp [S_nil]
  | cons i A ih => rw [S_cons, S_cons, S_cons, ih]; omega
theorem S_mul (c : Int) (f : Nat → Int) (A : List Nat) : S (fun i => c * f i) A = c * S f A := by
  induction A with
  | nil => simp [S_nil]
  | cons i A ih => rw [S_cons, S_cons, ih, Int.mul_add]
theorem S_perm (f : Nat → Int) {A B : List Nat} (h : A.Perm B) : S f A = S f B := by
  induction h with
  | nil => rfl
  | cons x _ ih => rw [S_cons, S_cons, ih]
  | swap x y l => rw [S_cons, S_cons, S_cons, S_cons]; omega
  | trans _ _ h1 h2 => rw [h1, h2]
theorem S_nonneg {f : Nat → Int} {A : List Nat} (h : ∀ i ∈ A, 0 ≤ f i) : 0 ≤ S f A := by
  have := S_le (f := fun _ => 0) h
  have e : S (fun _ => 0) A = 0 := by
    clear this h
    induction A with
    | nil => rfl
    | cons i A ih => rw [S_cons, ih]; rfl
  omega
/-- DANTZIG: cut by value for weight nothing holds more -/
theorem dantzig (w v p : Nat → Int) (A B : List Nat) (V W r : Int) (hp : ∀ i ∈ A ++ B, 0 ≤ p i ∧ p i ≤ 100) (hA : ∀ i ∈ A, V * w i ≤ v i * W) (hB : ∀ i ∈ B, v i * W ≤ V * w i) (hV : 0 ≤ V)
    (hr : S (fun i => p i * w i) (A ++ B) ≤ 100 * r) : S (fun i => p i * v i) (A ++ B) * W ≤ 100 * (S v A * W + V * (r - S w A)) := by
  have h1 : S (fun i => W * (p i * v i)) A ≤ S (fun i => 100 * (W * v i) + (V * (p i * w i) + (-100) * (V * w i))) A := S_le fun i hi => by
    have a := hA i hi
    have b := (hp i (by simp [hi])).2
    have c := Int.mul_nonneg (show 0 ≤ 100 - p i by omega) (show 0 ≤ v i * W - V * w i by omega)
    rw [Int.sub_mul, Int.mul_sub, Int.mul_sub] at c
    have e1 : W * (p i * v i) = p i * (v i * W) := by rw [Int.mul_comm W, Int.mul_assoc]
    have e2 : V * (p i * w i) = p i * (V * w i) := by rw [← Int.mul_assoc, ← Int.mul_assoc, Int.mul_comm V]
    have e3 : W * v i = v i * W := Int.mul_comm _ _
    rw [e1, e2, e3]; omega
  have h2 : S (fun i => W * (p i * v i)) B ≤ S (fun i => V * (p i * w i)) B := S_le fun i hi => by
    have a := hB i hi
    have b := (hp i (by simp [hi])).1
    have c := Int.mul_le_mul_of_nonneg_left a b
    have e1 : W * (p i * v i) = p i * (v i * W) := by rw [Int.mul_comm W, Int.mul_assoc]
    have e2 : V * (p i * w i) = p i * (V * w i) := by rw [← Int.mul_assoc, ← Int.mul_assoc, Int.mul_comm V]
    rw [e1, e2]; exact c
  rw [S_mul] at h1 h2
  rw [S_add, S_mul, S_mul, S_add, S_mul, S_mul, S_mul] at h1
  rw [S_mul] at h2
  rw [S_append] at hr ⊢
  have h3 := Int.mul_le_mul_of_nonneg_left hr hV
  rw [Int.mul_add] at h3
  have e4 : V * (100 * r) = 100 * (V * r) := by rw [← Int.mul_assoc, ← Int.mul_assoc, Int.mul_comm V]
  rw [e4] at h3
  rw [Int.mul_comm _ W, Int.mul_add, Int.mul_sub, Int.mul_comm (S v A) W]
  omega

/-- the cut: how many fit one by one, and what is left -/
def fitN (w : Nat → Int) : List Nat → Int → Nat
  | [], _ => 0
  | i :: l, r => if w i ≤ r then fitN w l (r - w i) + 1 else 0
theorem fitN_le (w : Nat → Int) (l : List Nat) : ∀ r, fitN w l r ≤ l.length := by
  induction l with
  | nil => intro r; simp [fitN]
  | cons i l ih => intro r; have := ih (r - w i); simp only [fitN, List.length_cons]; split <;> omega
theorem fitN_room (w : Nat → Int) (l : List Nat) : ∀ r, 0 ≤ r → S w (l.take (fitN w l r)) ≤ r := by
  induction l with
  | nil => intro r h; simpa [fitN, S_nil] using h
  | cons i l ih =>
    intro r h
    simp only [fitN]
    split
    · have := ih (r - w i) (by omega)
      rw [List.take_succ_cons, S_cons]; omega
    · simpa [S_nil] using h
theorem fitN_next (w : Nat → Int) (l : List Nat) : ∀ r, (h : fitN w l r < l.length) → r - S w (l.take (fitN w l r)) < w l[fitN w l r] := by
  induction l with
  | nil => intro r h; simp at h
  | cons i l ih =>
    intro r h
    by_cases c : w i ≤ r
    · have e : fitN w (i :: l) r = fitN w l (r - w i) + 1 := by simp [fitN, c]
      have h' : fitN w l (r - w i) < l.length := by rw [e] at h; simpa using h
      have := ih (r - w i) h'
      simp only [e, List.take_succ_cons, S_cons, List.getElem_cons_succ]
      omega
    · have e : fitN w (i :: l) r = 0 := by simp [fitN, c]
      simp only [e, List.take_zero, S_nil, List.getElem_cons_zero]
      omega
end SackPlain
namespace SackPlain
/-- as dear as, or dearer -/
def Dear (w v : Nat → Int) (i j : Nat) : Prop := v j * w i ≤ v i * w j
/-- what a cut tells -/
def CutRes (w v : Nat → Int) (ord : List Nat) (r whole part of_ : Int) : Prop :=
  ∃ A B, ord = A ++ B ∧ S w A ≤ r ∧ whole = S v A ∧ ((B = [] ∧ part = 0 ∧ of_ = 1) ∨ ∃ b B', B = b :: B' ∧ r - S w A < w b ∧ part = v b * (r - S w A) ∧ of_ = w b)
theorem cut_law {w v p : Nat → Int} {ord : List Nat} {r whole part of_ : Int} (h : CutRes w v ord r whole part of_) (hs : ord.Pairwise (Dear w v)) (hp : ∀ i ∈ ord, 0 ≤ p i ∧ p i ≤ 100) (hv : ∀ i ∈ ord, 0 ≤ v i)
    (hr : S (fun i => p i * w i) ord ≤ 100 * r) : S (fun i => p i * v i) ord * of_ ≤ 100 * (whole * of_ + part) := by
  obtain ⟨A, B, rfl, h1, rfl, h2⟩ := h
  rcases h2 with ⟨rfl, rfl, rfl⟩ | ⟨b, B', rfl, h3, rfl, rfl⟩
  · have := dantzig w v p A [] 0 1 r hp (fun i hi => by have := hv i (by simp [hi]); omega) (fun i hi => by cases hi) (Int.le_refl _) hr
    rw [Int.zero_mul] at this; exact this
  · rw [List.pairwise_append] at hs
    have hb := List.pairwise_cons.1 hs.2.1
    have := dantzig w v p A (b :: B') (v b) (w b) r hp (fun i hi => hs.2.2 i hi b (by simp)) (fun i hi => ?_) (hv b (by simp)) hr
    · exact this
    · rcases List.mem_cons.1 hi with rfl | hi
      · exact Int.le_refl _
      · exact hb.1 i hi
/-- what is half as good -/
def HalfRes (w v : Nat → Int) (ord : List Nat) (r some_ : Int) : Prop :=
  ∃ A B, (ord.filter fun i => decide (w i ≤ r)) = A ++ B ∧ S w A ≤ r ∧ some_ = S v A ∧ (B = [] ∨ ∃ b B', B = b :: B' ∧ r - S w A < w b)

/-! ### sets as marks -/
def wOf (l : List Gd) (i : Nat) : Int := (l.getD i g0).w
def vOf (l : List Gd) (i : Nat) : Int := (l.getD i g0).v
theorem S_succ (f : Nat → Int) (n : Nat) : S f (List.range (n + 1)) = f 0 + S (fun i => f (i + 1)) (List.range n) := by
  rw [List.range_succ_eq_map, S_cons]
  unfold S
  rw [List.map_map]; rfl
theorem weigh_eq (l : List Gd) : ∀ bs, weigh l bs = S (fun i => (if bs.getD i false then 1 else 0) * wOf l i) (List.range l.length) := by
  induction l with
  | nil => intro bs; cases bs <;> rfl
  | cons g l ih =>
    intro bs
    rw [List.length_cons, S_succ]
    cases bs with
    | nil =>
      have := ih []
      have e : weigh l [] = 0 := by cases l <;> rfl
      rw [e] at this
      simp only [weigh, List.getD_nil] at this ⊢
      simp only [Bool.false_eq_true, if_false, Int.zero_mul] at this ⊢
      rw [Int.zero_add]; exact this
    | cons b bs =>
      have := ih bs
      simp only [weigh]
      rw [this]
      show _ = (if b = true then 1 else 0) * g.w + S (fun i => (if bs.getD i false = true then 1 else 0) * wOf l i) (List.range l.length)
      cases b <;> simp
theorem worth_eq (l : List Gd) : ∀ bs, worth l bs = S (fun i => (if bs.getD i false then 1 else 0) * vOf l i) (List.range l.length) := by
  induction l with
  | nil => intro bs; cases bs <;> rfl
  | cons g l ih =>
    intro bs
    rw [List.length_cons, S_succ]
    cases bs with
    | nil =>
      have := ih []
      have e : worth l [] = 0 := by cases l <;> rfl
      rw [e] at this
      simp only [worth, List.getD_nil] at this ⊢
      simp only [Bool.false_eq_true, if_false, Int.zero_mul] at this ⊢
      rw [Int.zero_add]; exact this
    | cons b bs =>
      have := ih bs
      simp only [worth]
      rw [this]
      show _ = (if b = true then 1 else 0) * g.v + S (fun i => (if bs.getD i false = true then 1 else 0) * vOf l i) (List.range l.length)
      cases b <;> simp
theorem S_filter (f : Nat → Int) (P : Nat → Bool) (A : List Nat) : S (fun i => (if P i then 1 else 0) * f i) A = S f (A.filter P) := by
  induction A with
  | nil => rfl
  | cons i A ih =>
    rw [S_cons, List.filter_cons, ih]
    split
    · rw [S_cons]; omega
    · omega
/-- some places as marks -/
def marks (n : Nat) (A : List Nat) : List Bool := (List.range n).map fun i => decide (i ∈ A)
theorem marks_getD (n : Nat) (A : List Nat) (i : Nat) (h : i < n) : (marks n A).getD i false = decide (i ∈ A) := by
  unfold marks
  rw [List.getD_eq_getElem?_getD, List.getElem?_map, List.getElem?_range h]; rfl
theorem S_congr {f g : Nat → Int} {A : List Nat} (h : ∀ i ∈ A, f i = g i) : S f A = S g A := by
  unfold S; rw [List.map_congr_left h]
theorem S_marks (f : Nat → Int) (n : Nat) (A : List Nat) (hA : A.Nodup) (hl : ∀ i ∈ A, i < n) : S (fun i => (if (marks n A).getD i false then 1 else 0) * f i) (List.range n) = S f A := by
  have e : S (fun i => (if (marks n A).getD i false then 1 else 0) * f i) (List.range n) = S (fun i => (if decide (i ∈ A) then 1 else 0) * f i) (List.range n) :=
    S_congr fun i hi => by rw [marks_getD n A i (List.mem_range.1 hi)]
  rw [e, S_filter]
  apply S_perm
  rw [List.perm_ext_iff_of_nodup (List.nodup_range.filter _) hA]
  intro i
  rw [List.mem_filter, List.mem_range]
  constructor
  · rintro ⟨_, h⟩; exact of_decide_eq_true h
  · intro h; exact ⟨hl i h, by simpa using h⟩
/-- some goods that fit are worth no more than the most -/
theorem set_le_most {l : List Gd} (hl : Ok l) {A : List Nat} {r : Int} (hr : 0 ≤ r) (hA : A.Nodup) (hn : ∀ i ∈ A, i < l.length) (hw : S (wOf l) A ≤ r) : S (vOf l) A ≤ most l r := by
  have h1 := most_best l (fun g hg => by have := hl.all g hg; omega) r (marks l.length A) hr (by rw [weigh_eq, S_marks _ _ _ hA hn]; exact hw)
  rw [worth_eq, S_marks _ _ _ hA hn] at h1
  exact h1
theorem getD_mem {l : List Gd} {i : Nat} (h : i < l.length) : l.getD i g0 ∈ l := by
  rw [List.getD_eq_getElem?_getD, List.getElem?_eq_getElem h]; exact List.getElem_mem h
/-- cut, there is no less in it than whole -/
theorem cut_most {l : List Gd} (hl : Ok l) {ord : List Nat} (hp : ord.Perm (List.range l.length)) (hs : ord.Pairwise (Dear (wOf l) (vOf l))) {r whole part of_ : Int} (hr : 0 ≤ r) (h : CutRes (wOf l) (vOf l) ord r whole part of_) :
    most l r * of_ ≤ whole * of_ + part := by
  have hlt : ∀ i ∈ ord, i < l.length := fun i hi => List.mem_range.1 (hp.mem_iff.1 hi)
  have hw := told_weigh l r hr
  have hv := told_worth l r
  rw [weigh_eq, ← S_perm _ hp] at hw
  rw [worth_eq, ← S_perm _ hp] at hv
  have key := cut_law (p := fun i => 100 * (if (told l r).getD i false then 1 else 0)) h hs (fun i _ => by split <;> omega) (fun i hi => by have := hl.all _ (getD_mem (hlt i hi)); exact this.2.2.1) (by
    have e : S (fun i => 100 * (if (told l r).getD i false = true then 1 else 0) * wOf l i) ord = 100 * S (fun i => (if (told l r).getD i false = true then 1 else 0) * wOf l i) ord := by
      rw [← S_mul]; exact S_congr fun i _ => Int.mul_assoc _ _ _
    rw [e]; omega)
  have e : S (fun i => 100 * (if (told l r).getD i false = true then 1 else 0) * vOf l i) ord = 100 * S (fun i => (if (told l r).getD i false = true then 1 else 0) * vOf l i) ord := by
    rw [← S_mul]; exact S_congr fun i _ => Int.mul_assoc _ _ _
  rw [e, hv, Int.mul_assoc] at key
  omega
/-- little thought is half as good -/
theorem half_most {l : List Gd} (hl : Ok l) {ord : List Nat} (hp : ord.Perm (List.range l.length)) (hs : ord.Pairwise (Dear (wOf l) (vOf l))) {r some_ one : Int} (hr : 0 ≤ r) (h : HalfRes (wOf l) (vOf l) ord r some_)
    (h1 : ∀ i, i < l.length → wOf l i ≤ r → vOf l i ≤ one) (h0 : 0 ≤ one) : most l r ≤ some_ + one ∧ some_ ≤ most l r := by
  obtain ⟨A, B, hF, hA, rfl, hB⟩ := h
  have hlt : ∀ i ∈ ord, i < l.length := fun i hi => List.mem_range.1 (hp.mem_iff.1 hi)
  have hFm : ∀ i ∈ A ++ B, i < l.length ∧ wOf l i ≤ r := fun i hi => by
    rw [← hF, List.mem_filter] at hi
    exact ⟨hlt i hi.1, of_decide_eq_true hi.2⟩
  have hnd : (A ++ B).Nodup := by rw [← hF]; exact (hp.nodup_iff.2 List.nodup_range).filter _
  refine ⟨?_, set_le_most hl hr (List.nodup_append.1 hnd).1 (fun i hi => (hFm i (by simp [hi])).1) hA⟩
  have hw := told_weigh l r hr
  have hv := told_worth l r
  -- nothing that is told is too heavy
  have hz : ∀ i, i < l.length → (told l r).getD i false = true → wOf l i ≤ r := fun i hi ht => by
    have h2 : wOf l i ≤ weigh l (told l r) := by
      rw [weigh_eq]
      have hm : (List.range l.length).Perm (i :: (List.range l.length).erase i) := List.perm_cons_erase (List.mem_range.2 hi)
      rw [S_perm _ hm, S_cons, ht]
      have : 0 ≤ S (fun i => (if (told l r).getD i false = true then 1 else 0) * wOf l i) ((List.range l.length).erase i) := S_nonneg fun j hj => by
        have hj' : j < l.length := List.mem_range.1 (List.mem_of_mem_erase hj)
        have := hl.all _ (getD_mem hj')
        have : 0 ≤ wOf l j := by unfold wOf; omega
        split <;> omega
      simp only [if_true]; omega
    omega
  have move : ∀ f : Nat → Int, S (fun i => (if (told l r).getD i false = true then 1 else 0) * f i) (List.range l.length) = S (fun i => (if (told l r).getD i false = true then 1 else 0) * f i) (A ++ B) := fun f => by
    rw [← S_perm _ hp, ← hF, ← S_filter]
    exact S_congr fun i hi => by
      by_cases c : (told l r).getD i false = true
      · have := hz i (hlt i hi) c
        simp [this]
      · simp only [if_neg c, Int.zero_mul, Int.mul_zero]
  rw [weigh_eq, move] at hw
  rw [worth_eq, move] at hv
  have hs' : (A ++ B).Pairwise (Dear (wOf l) (vOf l)) := by rw [← hF]; exact hs.filter _
  have hv0 : ∀ i ∈ A ++ B, 0 ≤ vOf l i := fun i hi => (hl.all _ (getD_mem (hFm i hi).1)).2.2.1
  have e : ∀ f : Nat → Int, S (fun i => 100 * (if (told l r).getD i false = true then 1 else 0) * f i) (A ++ B) = 100 * S (fun i => (if (told l r).getD i false = true then 1 else 0) * f i) (A ++ B) := fun f => by
    rw [← S_mul]; exact S_congr fun i _ => Int.mul_assoc _ _ _
  rcases hB with rfl | ⟨b, B', rfl, h3⟩
  · have key := dantzig (wOf l) (vOf l) (fun i => 100 * (if (told l r).getD i false then 1 else 0)) A [] 0 1 r (fun i _ => by split <;> omega) (fun i hi => by have := hv0 i (by simp [hi]); omega) (fun i hi => by cases hi) (Int.le_refl _) (by rw [e]; omega)
    rw [e, hv] at key; omega
  · rw [List.pairwise_append] at hs'
    have hb := List.pairwise_cons.1 hs'.2.1
    have hbb := hFm b (by simp)
    have hvb := hv0 b (by simp)
    have key := dantzig (wOf l) (vOf l) (fun i => 100 * (if (told l r).getD i false then 1 else 0)) A (b :: B') (vOf l b) (wOf l b) r (fun i _ => by split <;> omega) (fun i hi => hs'.2.2 i hi b (by simp)) (fun i hi => by
      rcases List.mem_cons.1 hi with rfl | hi
      · exact Int.le_refl _
      · exact hb.1 i hi) hvb (by rw [e]; omega)
    rw [e, hv] at key
    have hob := h1 b hbb.1 hbb.2
    have hwb : 1 ≤ wOf l b := (hl.all _ (getD_mem hbb.1)).1
    have h4 := Int.mul_le_mul_of_nonneg_left (show r - S (wOf l) A ≤ wOf l b by omega) hvb
    have h5 : most l r * wOf l b ≤ (S (vOf l) A + vOf l b) * wOf l b := by
      rw [Int.add_mul]
      rw [Int.mul_assoc] at key
      omega
    have := Int.le_of_mul_le_mul_right h5 (by omega)
    omega
end SackPlain
