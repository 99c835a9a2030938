/- PLAIN LAW: a heap in a list (no program in sight). -/
set_option linter.unusedVariables false
set_option linter.unusedSimpArgs false
namespace HeapPlain

/-- an order, of which two may stand at one place -/
structure Order {α : Type} (lt : α → α → Prop) : Prop where
  asym : ∀ a b, lt a b → ¬ lt b a
  ntrans : ∀ a b c, ¬ lt b a → ¬ lt c b → ¬ lt c a

variable {α : Type} {lt : α → α → Prop} (d : α)

def swapL (l : List α) (i j : Nat) : List α := (l.set i (l.getD j d)).set j (l.getD i d)
theorem swapL_length (l : List α) (i j : Nat) : (swapL d l i j).length = l.length := by simp [swapL]
theorem getD_lt (l : List α) (i : Nat) (h : i < l.length) : l.getD i d = l[i] := by simp [List.getD_eq_getElem?_getD, h]
theorem getD_set (l : List α) (i k : Nat) (a : α) (h : i < l.length) : (l.set i a).getD k d = if k = i then a else l.getD k d := by
  rw [List.getD_eq_getElem?_getD, List.getElem?_set, List.getD_eq_getElem?_getD]
  by_cases e : k = i
  · subst e; simp [h]
  · rw [if_neg (fun e' => e e'.symm), if_neg e]
theorem getD_swap (l : List α) (i j k : Nat) (hi : i < l.length) (hj : j < l.length) : (swapL d l i j).getD k d = if k = j then l.getD i d else if k = i then l.getD j d else l.getD k d := by
  unfold swapL
  rw [getD_set d _ j k _ (by simpa using hj), getD_set d _ i k _ hi]
theorem perm_swap [DecidableEq α] (l : List α) (i j : Nat) (hi : i < l.length) (hj : j < l.length) : (swapL d l i j).Perm l := by
  rw [List.perm_iff_count]
  intro b
  unfold swapL
  rw [getD_lt d l i hi, getD_lt d l j hj]
  rw [List.count_set (h := by simpa using hj), List.count_set (h := hi)]
  have h1 := List.boole_getElem_le_count (a := b) (h := hi)
  by_cases e : i = j
  · subst e
    simp only [List.getElem_set_self]
    omega
  · rw [List.getElem_set_ne (by omega)]
    omega

def Heap (lt : α → α → Prop) (l : List α) : Prop := ∀ k, 0 < k → k < l.length → ¬ lt (l.getD k d) (l.getD ((k - 1) / 2) d)

theorem heap_min (O : Order lt) {l : List α} (h : Heap d lt l) : ∀ k, k < l.length → ¬ lt (l.getD k d) (l.getD 0 d) := by
  intro k
  induction k using Nat.strongRecOn with
  | ind k ih =>
    intro hk
    rcases Nat.eq_zero_or_pos k with rfl | h0
    · exact fun c => O.asym _ _ c c
    · exact O.ntrans _ _ _ (ih ((k - 1) / 2) (by omega) (by omega)) (h k h0 hk)

/-! ### up -/
structure Up (lt : α → α → Prop) (l : List α) (i : Nat) : Prop where
  at_ : i < l.length
  else_ : ∀ k, 0 < k → k < l.length → k ≠ i → ¬ lt (l.getD k d) (l.getD ((k - 1) / 2) d)
  over : 0 < i → ∀ c, 0 < c → c < l.length → (c - 1) / 2 = i → ¬ lt (l.getD c d) (l.getD ((i - 1) / 2) d)
theorem Up.start {l : List α} (x : α) (h : Heap d lt l) : Up d lt (l ++ [x]) l.length := by
  refine ⟨by simp, fun k h0 hk hne => ?_, fun h0 c hc hl he => ?_⟩
  · rw [List.length_append, List.length_singleton] at hk
    have := h k h0 (by omega)
    simp only [List.getD_eq_getElem?_getD] at this ⊢
    rw [List.getElem?_append_left (by omega), List.getElem?_append_left (by omega)]; exact this
  · rw [List.length_append, List.length_singleton] at hl; omega
theorem Up.done {l : List α} {i : Nat} (h : Up d lt l i) (hi : i = 0 ∨ ¬ lt (l.getD i d) (l.getD ((i - 1) / 2) d)) : Heap d lt l := by
  intro k h0 hk
  by_cases e : k = i
  · subst e
    rcases hi with rfl | hi
    · omega
    · exact hi
  · exact h.else_ k h0 hk e
theorem Up.step (O : Order lt) {l : List α} {i : Nat} (h : Up d lt l i) (h0 : 0 < i) (hlt : lt (l.getD i d) (l.getD ((i - 1) / 2) d)) : Up d lt (swapL d l i ((i - 1) / 2)) ((i - 1) / 2) := by
  have hi := h.at_
  have hp : (i - 1) / 2 < l.length := by omega
  have hne : (i - 1) / 2 ≠ i := by omega
  have irr : ∀ a, ¬ lt a a := fun a c => O.asym _ _ c c
  refine ⟨by rw [swapL_length]; exact hp, fun k hk0 hk hkp => ?_, fun hp0 c hc0 hc he => ?_⟩
  · rw [swapL_length] at hk
    rw [getD_swap d l i _ k hi hp, getD_swap d l i _ _ hi hp, if_neg hkp]
    by_cases e : k = i
    · subst e
      rw [if_pos rfl, if_pos rfl]
      exact O.asym _ _ hlt
    · rw [if_neg e]
      by_cases e1 : (k - 1) / 2 = (i - 1) / 2
      · rw [if_pos e1]
        have := h.else_ k hk0 hk e
        rw [e1] at this
        exact O.ntrans _ _ _ (O.asym _ _ hlt) this
      · rw [if_neg e1]
        by_cases e2 : (k - 1) / 2 = i
        · rw [if_pos e2]
          exact h.over h0 k hk0 hk e2
        · rw [if_neg e2]
          exact h.else_ k hk0 hk e
  · rw [swapL_length] at hc
    have n1 : ((i - 1) / 2 - 1) / 2 ≠ (i - 1) / 2 := by omega
    have n2 : ((i - 1) / 2 - 1) / 2 ≠ i := by omega
    rw [getD_swap d l i _ c hi hp, getD_swap d l i _ _ hi hp, if_neg n1, if_neg n2, if_neg (by omega)]
    have hpp := h.else_ ((i - 1) / 2) hp0 hp hne
    by_cases e : c = i
    · rw [if_pos e]; exact hpp
    · rw [if_neg e]
      have := h.else_ c hc0 hc e
      rw [he] at this
      exact O.ntrans _ _ _ hpp this

/-! ### down -/
structure Dn (lt : α → α → Prop) (l : List α) (i : Nat) : Prop where
  else_ : ∀ k, 0 < k → k < l.length → (k - 1) / 2 ≠ i → ¬ lt (l.getD k d) (l.getD ((k - 1) / 2) d)
  over : 0 < i → ∀ c, 0 < c → c < l.length → (c - 1) / 2 = i → ¬ lt (l.getD c d) (l.getD ((i - 1) / 2) d)
theorem Dn.start {l : List α} {n : Nat} (hn : l.length = n + 1) (h : Heap d lt l) : Dn d lt ((l.set 0 (l.getD n d)).take n) 0 := by
  refine ⟨fun k h0 hk hp => ?_, fun h0 => by omega⟩
  have hk' : k < n := by simp at hk; omega
  have e : ∀ j, 0 < j → j < n → ((l.set 0 (l.getD n d)).take n).getD j d = l.getD j d := fun j j0 jn => by
    rw [List.getD_eq_getElem?_getD, List.getElem?_take_of_lt jn, List.getElem?_set_ne (by omega), List.getD_eq_getElem?_getD]
  rw [e k h0 hk', e _ (by omega) (by omega)]
  exact h k h0 (by omega)
theorem Dn.perm {l : List α} {n : Nat} (hn : l.length = n + 1) : (l.getD 0 d :: (l.set 0 (l.getD n d)).take n).Perm l := by
  obtain ⟨x, m, rfl⟩ : ∃ x m, l = x :: m := by
    cases l with
    | nil => simp at hn
    | cons x m => exact ⟨x, m, rfl⟩
  have hm : m.length = n := by simpa using hn
  cases n with
  | zero =>
    have : m = [] := List.eq_nil_of_length_eq_zero hm
    subst this
    simp
  | succ n =>
    have hd : ∃ a z, m = a ++ [z] := ⟨m.dropLast, m.getLast (by intro e; rw [e] at hm; simp at hm), (List.dropLast_concat_getLast _).symm⟩
    obtain ⟨a, z, rfl⟩ := hd
    have ha : a.length = n := by simpa using hm
    have e1 : (x :: (a ++ [z])).getD (n + 1) d = z := by
      rw [List.getD_eq_getElem?_getD, List.getElem?_cons_succ, List.getElem?_append_right (by omega), ha]; simp
    rw [e1]
    simp only [List.set_cons_zero, List.take_succ_cons]
    rw [List.take_append_of_le_length (by omega), List.take_of_length_le (by omega)]
    show (x :: z :: a).Perm (x :: (a ++ [z]))
    exact List.Perm.cons _ (List.perm_append_singleton z a).symm
theorem Dn.done {l : List α} {i : Nat} (h : Dn d lt l i) (hi : ∀ c, 0 < c → c < l.length → (c - 1) / 2 = i → ¬ lt (l.getD c d) (l.getD i d)) : Heap d lt l := by
  intro k h0 hk
  by_cases e : (k - 1) / 2 = i
  · have := hi k h0 hk e; rw [← e] at this; exact this
  · exact h.else_ k h0 hk e
theorem Dn.step (O : Order lt) {l : List α} {i c : Nat} (h : Dn d lt l i) (hc0 : 0 < c) (hc : c < l.length) (hci : (c - 1) / 2 = i) (hlt : lt (l.getD c d) (l.getD i d)) (hs : ∀ k, 0 < k → k < l.length → (k - 1) / 2 = i → ¬ lt (l.getD k d) (l.getD c d)) : Dn d lt (swapL d l i c) c := by
  have hi : i < l.length := by omega
  refine ⟨fun k hk0 hk hkp => ?_, fun _ k hk0 hk he => ?_⟩
  · rw [swapL_length] at hk
    rw [getD_swap d l i c k hi hc, getD_swap d l i c _ hi hc, if_neg hkp]
    by_cases e : k = c
    · subst e
      rw [if_pos rfl, if_pos hci]
      exact O.asym _ _ hlt
    · rw [if_neg e]
      by_cases e1 : k = i
      · subst e1
        rw [if_pos rfl, if_neg (by omega)]
        exact h.over hk0 c hc0 hc hci
      · rw [if_neg e1]
        by_cases e2 : (k - 1) / 2 = i
        · rw [if_pos e2]; exact hs k hk0 hk e2
        · rw [if_neg e2]; exact h.else_ k hk0 hk e2
  · rw [swapL_length] at hk
    rw [getD_swap d l i c k hi hc, getD_swap d l i c _ hi hc, hci, if_neg (by omega), if_neg (by omega), if_neg (by omega), if_pos rfl]
    have := h.else_ k hk0 hk (by omega)
    rw [he] at this
    exact this
end HeapPlain
