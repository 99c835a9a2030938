/- PLAIN LAW: what the boxes hold, counted (no program in sight). -/
namespace PackPlain

theorem perm_sum {l l' : List Int} (h : l.Perm l') : l.sum = l'.sum := by
  induction h with
  | nil => rfl
  | cons x _ ih => rw [List.sum_cons, List.sum_cons, ih]
  | swap x y l => simp only [List.sum_cons]; omega
  | trans _ _ h1 h2 => exact h1.trans h2

/-- what box c holds of the things listed in l -/
def loadL (sizes ins : List Int) (c : Int) (l : List Nat) : Int := (l.map fun i => if ins.getD i 0 = c then sizes.getD i 0 else 0).sum
theorem loadL_perm (sizes ins : List Int) (c : Int) {l l' : List Nat} (h : l.Perm l') : loadL sizes ins c l = loadL sizes ins c l' := by
  unfold loadL
  exact perm_sum (h.map _)
theorem loadL_snoc (sizes ins : List Int) (c : Int) (l : List Nat) (i : Nat) : loadL sizes ins c (l ++ [i]) = loadL sizes ins c l + if ins.getD i 0 = c then sizes.getD i 0 else 0 := by
  unfold loadL; simp
/-- the boxes used, in the order of their first use -/
def keysL (ins : List Int) : List Nat → List Int
  | [] => []
  | i :: l => keysL ins l ++ (if ins.getD i 0 ∈ keysL ins l then [] else [ins.getD i 0])
theorem mem_keysL (ins : List Int) (c : Int) : ∀ l : List Nat, c ∈ keysL ins l ↔ ∃ i ∈ l, ins.getD i 0 = c
  | [] => by simp [keysL]
  | i :: l => by
    unfold keysL
    have ih := mem_keysL ins c l
    by_cases h : ins.getD i 0 ∈ keysL ins l
    · rw [if_pos h]
      simp only [List.append_nil, ih, List.mem_cons, exists_eq_or_imp]
      constructor
      · exact Or.inr
      · rintro (e | e)
        · exact ih.1 (e ▸ h)
        · exact e
    · rw [if_neg h]
      simp only [List.mem_append, ih, List.mem_cons, List.not_mem_nil, or_false, exists_eq_or_imp]
      constructor
      · rintro (e | e)
        · exact Or.inr e
        · exact Or.inl e.symm
      · rintro (e | e)
        · exact Or.inr e.symm
        · exact Or.inl e
theorem keysL_nodup (ins : List Int) : ∀ l : List Nat, (keysL ins l).Nodup
  | [] => by simp [keysL]
  | i :: l => by
    unfold keysL
    split
    · simpa using keysL_nodup ins l
    · rename_i h
      exact List.nodup_append.2 ⟨keysL_nodup ins l, by simp, fun a ha b hb e => by rw [List.mem_singleton] at hb; rw [← hb, ← e] at h; exact h ha⟩
theorem keysL_length (ins : List Int) : ∀ l : List Nat, (keysL ins l).length ≤ l.length
  | [] => by simp [keysL]
  | i :: l => by
    have := keysL_length ins l
    unfold keysL
    split <;> simp <;> omega

theorem sum_map_add (f g : Int → Int) : ∀ l : List Int, (l.map fun c => f c + g c).sum = (l.map f).sum + (l.map g).sum
  | [] => rfl
  | a :: l => by simp only [List.map_cons, List.sum_cons, sum_map_add f g l]; omega
theorem sum_map_zero (f : Int → Int) : ∀ l : List Int, (∀ c ∈ l, f c = 0) → (l.map f).sum = 0
  | [], _ => rfl
  | a :: l, h => by rw [List.map_cons, List.sum_cons, sum_map_zero f l fun c hc => h c (List.mem_cons_of_mem _ hc), h a (List.mem_cons_self ..)]; rfl
theorem sum_hit (x s : Int) : ∀ l : List Int, l.Nodup → x ∈ l → (l.map fun c => if x = c then s else 0).sum = s
  | [], _, h => by simp at h
  | a :: l, hn, h => by
    rw [List.nodup_cons] at hn
    rw [List.map_cons, List.sum_cons]
    by_cases e : x = a
    · subst e
      rw [if_pos rfl, sum_map_zero _ l fun c hc => if_neg (fun e => by rw [← e] at hc; exact hn.1 hc)]; omega
    · rw [if_neg e, sum_hit x s l hn.2 (by simpa [e] using h)]; omega

theorem loadL_cons (sizes ins : List Int) (c : Int) (i : Nat) (l : List Nat) : loadL sizes ins c (i :: l) = (if ins.getD i 0 = c then sizes.getD i 0 else 0) + loadL sizes ins c l := by
  unfold loadL; simp
theorem loadL_out (sizes ins : List Int) (c : Int) (l : List Nat) (h : c ∉ keysL ins l) : loadL sizes ins c l = 0 := by
  induction l with
  | nil => rfl
  | cons i l ih =>
    rw [mem_keysL] at h
    rw [loadL_cons, ih (fun h' => h (by rw [mem_keysL] at h'; obtain ⟨j, hj, e⟩ := h'; exact ⟨j, List.mem_cons_of_mem _ hj, e⟩)), if_neg (fun e => h ⟨i, List.mem_cons_self .., e⟩)]
    rfl
/-- all that is in the boxes is all that there is -/
theorem loads_sum (sizes ins : List Int) : ∀ l : List Nat, ((keysL ins l).map fun c => loadL sizes ins c l).sum = (l.map fun i => sizes.getD i 0).sum
  | [] => rfl
  | i :: l => by
    have ih := loads_sum sizes ins l
    have e : ∀ ks : List Int, (ks.map fun c => loadL sizes ins c (i :: l)).sum = (ks.map fun c => if ins.getD i 0 = c then sizes.getD i 0 else 0).sum + (ks.map fun c => loadL sizes ins c l).sum := fun ks => by
      rw [← sum_map_add, List.map_congr_left fun c _ => loadL_cons sizes ins c i l]
    rw [e, List.map_cons, List.sum_cons, ← ih]
    have hn := keysL_nodup ins l
    rw [show keysL ins (i :: l) = keysL ins l ++ (if ins.getD i 0 ∈ keysL ins l then [] else [ins.getD i 0]) from rfl]
    by_cases h : ins.getD i 0 ∈ keysL ins l
    · rw [if_pos h, List.append_nil, sum_hit _ _ _ hn h]
    · rw [if_neg h, List.map_append, List.map_append, List.sum_append, List.sum_append, sum_map_zero _ (keysL ins l) fun c hc => if_neg (fun e => by rw [← e] at hc; exact h hc)]
      simp only [List.map_cons, List.map_nil, List.sum_cons, List.sum_nil, if_true]
      rw [loadL_out sizes ins _ l h]; omega
theorem sum_le_mul (f : Int → Int) (C : Int) : ∀ l : List Int, (∀ c ∈ l, f c ≤ C) → (l.map f).sum ≤ C * l.length
  | [], _ => by simp
  | a :: l, h => by
    have := sum_le_mul f C l fun c hc => h c (List.mem_cons_of_mem _ hc)
    have := h a (List.mem_cons_self ..)
    rw [List.map_cons, List.sum_cons, List.length_cons]
    have e : C * ((l.length + 1 : Nat) : Int) = C * (l.length : Int) + C := by rw [Int.natCast_succ, Int.mul_add, Int.mul_one]
    omega
theorem sum_getD : ∀ l : List Int, ((List.range l.length).map fun i => l.getD i 0).sum = l.sum := fun l => by
  congr 1
  apply List.ext_getElem
  · simp
  · intro i h1 h2
    simp at h1
    simp [List.getD_eq_getElem?_getD, h1]

/-! ### as the program counts: one after the other -/
def revRange : Nat → List Nat
  | 0 => []
  | k + 1 => k :: revRange k
theorem revRange_perm : ∀ k, (revRange k).Perm (List.range k)
  | 0 => .nil
  | k + 1 => by
    rw [List.range_succ]
    exact ((revRange_perm k).cons k).trans (List.perm_append_singleton k _).symm
theorem mem_revRange (k i : Nat) : i ∈ revRange k ↔ i < k := by rw [(revRange_perm k).mem_iff, List.mem_range]
def loadA (sizes ins : List Int) (k : Nat) (c : Int) : Int := loadL sizes ins c (revRange k)
def keysA (ins : List Int) (k : Nat) : List Int := keysL ins (revRange k)
theorem loadA_succ (sizes ins : List Int) (k : Nat) (c : Int) : loadA sizes ins (k + 1) c = loadA sizes ins k c + if ins.getD k 0 = c then sizes.getD k 0 else 0 := by
  unfold loadA; rw [revRange, loadL_cons]; omega
theorem mem_keysA (ins : List Int) (k : Nat) (c : Int) : c ∈ keysA ins k ↔ ∃ i, i < k ∧ ins.getD i 0 = c := by
  unfold keysA; rw [mem_keysL]; simp [mem_revRange]
theorem keysA_succ (ins : List Int) (k : Nat) : (keysA ins (k + 1)).length = if ins.getD k 0 ∈ keysA ins k then (keysA ins k).length else (keysA ins k).length + 1 := by
  unfold keysA; rw [revRange, keysL]; split <;> simp
theorem keysA_length (ins : List Int) (k : Nat) : (keysA ins k).length ≤ k := by
  have := keysL_length ins (revRange k)
  rw [(revRange_perm k).length_eq, List.length_range] at this; exact this
theorem loadA_out (sizes ins : List Int) (k : Nat) (c : Int) (h : c ∉ keysA ins k) : loadA sizes ins k c = 0 := loadL_out _ _ _ _ h
theorem loadA_nonneg (sizes ins : List Int) (hs : ∀ n ∈ sizes, 1 ≤ n) (k : Nat) (c : Int) (hk : k ≤ sizes.length) : 0 ≤ loadA sizes ins k c ∧ loadA sizes ins k c ≤ (sizes.take k).sum := by
  induction k with
  | zero => exact ⟨Int.le_refl _, by simp [loadA, revRange, loadL]⟩
  | succ k ih =>
    have := ih (by omega)
    rw [loadA_succ, List.take_add_one, List.sum_append, List.getElem?_eq_getElem (by omega)]
    have h1 := hs _ (List.getElem_mem (l := sizes) (n := k) (by omega))
    have e : sizes.getD k 0 = sizes[k] := by simp [List.getD_eq_getElem?_getD, List.getElem?_eq_getElem (show k < sizes.length by omega)]
    rw [e]
    simp only [Option.toList_some, List.sum_cons, List.sum_nil]
    split <;> omega
/-- no fewer boxes than the sizes fill -/
theorem room_law (sizes ins : List Int) (room : Int) (h : ∀ c ∈ keysA ins sizes.length, loadA sizes ins sizes.length c ≤ room) : sizes.sum ≤ (keysA ins sizes.length).length * room := by
  have h1 := sum_le_mul (fun c => loadA sizes ins sizes.length c) room (keysA ins sizes.length) h
  have h2 := loads_sum sizes ins (revRange sizes.length)
  have h3 : ((revRange sizes.length).map fun i => sizes.getD i 0).sum = sizes.sum := by
    rw [perm_sum ((revRange_perm sizes.length).map _), sum_getD]
  rw [h3] at h2
  rw [Int.mul_comm]
  unfold keysA loadA at h1
  unfold keysA
  omega

/-- what Many tells: that all is in boxes, and none too full -/
structure Packs (sizes : List Int) (room : Int) (ins : List Int) : Prop where
  len : ins.length = sizes.length
  box : ∀ i, i < sizes.length → 0 ≤ ins.getD i 0 ∧ ins.getD i 0 ≤ 15
  load : ∀ c ∈ keysA ins sizes.length, loadA sizes ins sizes.length c ≤ room
structure ManyRes (sizes : List Int) (room : Int) (ins : List Int) (n er : Int) : Prop where
  good : er = 0 ↔ Packs sizes room ins
  many : er = 0 → n = ((keysA ins sizes.length).length : Nat)
  none : er ≠ 0 → n = 0
end PackPlain
