/- PLAIN LAWS: the first box that has room. -/
namespace Go.Proofs.YtomgcfjdmoefgaaDoor.BinsPlain

/-- the first place with room for `s` (the length, if there is none) -/
def fitIdx : List Int → Int → Nat
  | [], _ => 0
  | a :: l, s => if s ≤ a then 0 else fitIdx l s + 1
theorem fitIdx_le (l : List Int) (s : Int) : fitIdx l s ≤ l.length := by
  induction l with
  | nil => simp [fitIdx]
  | cons a l ih => simp only [fitIdx, List.length_cons]; split <;> omega
theorem fitIdx_before (l : List Int) (s : Int) (j : Nat) (hj : j < fitIdx l s) : l.getD j 0 < s := by
  induction l generalizing j with
  | nil => simp [fitIdx] at hj
  | cons a l ih =>
    simp only [fitIdx] at hj
    split at hj
    · omega
    · cases j with
      | zero => show a < s; omega
      | succ j => have := ih j (by omega); simpa using this
theorem fitIdx_at (l : List Int) (s : Int) (h : fitIdx l s < l.length) : s ≤ l.getD (fitIdx l s) 0 := by
  induction l with
  | nil => simp at h
  | cons a l ih =>
    simp only [fitIdx] at h ⊢
    by_cases c : s ≤ a
    · rw [if_pos c]; exact c
    · rw [if_neg c] at h ⊢
      have := ih (by simpa using h)
      simpa using this
/-- it is what one finds who looks from the left -/
theorem fitIdx_eq (l : List Int) (s : Int) (k : Nat) (hk : k ≤ l.length) (h1 : ∀ j, j < k → l.getD j 0 < s) (h2 : k < l.length → s ≤ l.getD k 0) : fitIdx l s = k := by
  have a := fitIdx_le l s
  rcases Nat.lt_trichotomy (fitIdx l s) k with h | h | h
  · have := h1 _ h
    have := fitIdx_at l s (by omega)
    omega
  · exact h
  · have := fitIdx_before l s k h
    have := h2 (by omega)
    omega

/-- what is left behind a thing -/
def place (room : Int) (l : List Int) (s : Int) : List Int :=
  if fitIdx l s < l.length then l.set (fitIdx l s) (l.getD (fitIdx l s) 0 - s) else l ++ [room - s]

/-- things in some order, each into the first box that has room -/
def fillS (sizes : List Int) (room : Int) : List Nat → List Int → List Int → List Int
  | [], _, out => out
  | i :: ord, l, out => fillS sizes room ord (place room l (sizes.getD i 0)) (out.set i (fitIdx l (sizes.getD i 0) : Nat))
theorem fillS_length (sizes : List Int) (room : Int) (ord : List Nat) (l out : List Int) : (fillS sizes room ord l out).length = out.length := by
  induction ord generalizing l out with
  | nil => rfl
  | cons i ord ih => simp only [fillS]; rw [ih]; simp

theorem place_length (room : Int) (l : List Int) (s : Int) : (place room l s).length = if fitIdx l s < l.length then l.length else l.length + 1 := by
  unfold place; split <;> simp
theorem place_getD (room : Int) (l : List Int) (s : Int) (j : Nat) : (place room l s).getD j 0 = if j = fitIdx l s then (if fitIdx l s < l.length then l.getD j 0 - s else room - s) else l.getD j 0 := by
  have hle := fitIdx_le l s
  unfold place
  by_cases h : fitIdx l s < l.length
  · rw [if_pos h]
    by_cases e : j = fitIdx l s
    · rw [if_pos e, if_pos h, e]
      rw [List.getD_eq_getElem?_getD, List.getElem?_set_self h]; rfl
    · rw [if_neg e, List.getD_eq_getElem?_getD, List.getElem?_set_ne (fun h => e h.symm), List.getD_eq_getElem?_getD]
  · rw [if_neg h]
    have e' : fitIdx l s = l.length := by omega
    by_cases e : j = fitIdx l s
    · rw [if_pos e, if_neg h, e, e']
      simp
    · rw [if_neg e]
      rw [List.getD_eq_getElem?_getD, List.getD_eq_getElem?_getD]
      rcases Nat.lt_or_ge j l.length with h1 | h1
      · rw [List.getElem?_append_left h1]
      · rw [List.getElem?_eq_none (by simp; omega), List.getElem?_eq_none (by omega)]

/-- what holds of what is left: less than would fill two boxes is left in any two -/
structure LeftOk (room : Int) (l : List Int) : Prop where
  low : ∀ j, j < l.length → 0 ≤ l.getD j 0
  high : ∀ j, j < l.length → l.getD j 0 < room
  two : ∀ i j, j < i → i < l.length → l.getD i 0 + l.getD j 0 < room

theorem LeftOk.nil (room : Int) : LeftOk room [] := ⟨by simp, by simp, by simp⟩
theorem LeftOk.place {room : Int} {l : List Int} (h : LeftOk room l) (s : Int) (h1 : 1 ≤ s) (h2 : s ≤ room) : LeftOk room (place room l s) := by
  have hle := fitIdx_le l s
  refine ⟨fun j hj => ?_, fun j hj => ?_, fun i j hji hi => ?_⟩
  · rw [place_length] at hj
    rw [place_getD]
    by_cases e : j = fitIdx l s
    · rw [if_pos e]
      by_cases c : fitIdx l s < l.length
      · rw [if_pos c, e]; have := fitIdx_at l s c; omega
      · rw [if_neg c]; omega
    · rw [if_neg e]; exact h.low j (by split at hj <;> omega)
  · rw [place_length] at hj
    rw [place_getD]
    by_cases e : j = fitIdx l s
    · rw [if_pos e]
      by_cases c : fitIdx l s < l.length
      · rw [if_pos c, e]; have := h.high _ c; omega
      · rw [if_neg c]; omega
    · rw [if_neg e]; exact h.high j (by split at hj <;> omega)
  · rw [place_length] at hi
    rw [place_getD, place_getD]
    by_cases ei : i = fitIdx l s
    · have ej : j ≠ fitIdx l s := by omega
      rw [if_pos ei, if_neg ej]
      have hb := fitIdx_before l s j (by omega)
      by_cases c : fitIdx l s < l.length
      · rw [if_pos c]; have := h.high i (by omega); omega
      · rw [if_neg c]; omega
    · rw [if_neg ei]
      have hil : i < l.length := by split at hi <;> omega
      by_cases ej : j = fitIdx l s
      · rw [if_pos ej, if_pos (by omega)]
        have := h.two i j hji hil; omega
      · rw [if_neg ej]
        exact h.two i j hji hil

/-- what is left behind the first `k` things -/
def leftA (sizes : List Int) (room : Int) : Nat → List Int
  | 0 => []
  | k + 1 => place room (leftA sizes room k) (sizes.getD k 0)
theorem leftA_length (sizes : List Int) (room : Int) (k : Nat) : (leftA sizes room k).length ≤ k := by
  induction k with
  | zero => simp [leftA]
  | succ k ih => simp only [leftA]; rw [place_length]; split <;> omega
theorem leftA_ok (sizes : List Int) (room : Int) (hs : ∀ n ∈ sizes, 1 ≤ n ∧ n ≤ room) (k : Nat) (hk : k ≤ sizes.length) : LeftOk room (leftA sizes room k) := by
  induction k with
  | zero => exact LeftOk.nil room
  | succ k ih =>
    have hm : sizes.getD k 0 ∈ sizes := by rw [List.getD_eq_getElem?_getD, List.getElem?_eq_getElem (by omega)]; simp
    exact (ih (by omega)).place _ (hs _ hm).1 (hs _ hm).2

theorem fillS_range (sizes : List Int) (room : Int) (m j : Nat) (out : List Int) (hj : j + m = sizes.length) (ho : out.length = sizes.length) (k : Nat) (hk : k < sizes.length) :
    (fillS sizes room (List.range' j m) (leftA sizes room j) out).getD k 0 = if k < j then out.getD k 0 else (fitIdx (leftA sizes room k) (sizes.getD k 0) : Nat) := by
  induction m generalizing j out with
  | zero => rw [if_pos (by omega)]; rfl
  | succ m ih =>
    simp only [List.range'_succ, fillS]
    have := ih (j + 1) (out.set j (fitIdx (leftA sizes room j) (sizes.getD j 0) : Nat)) (by omega) (by simpa using ho)
    simp only [leftA] at this
    rw [this]
    rcases Nat.lt_trichotomy k j with h | h | h
    · rw [if_pos (by omega), if_pos h, List.getD_eq_getElem?_getD, List.getElem?_set_ne (by omega), List.getD_eq_getElem?_getD]
    · subst h
      rw [if_pos (by omega), if_neg (by omega), List.getD_eq_getElem?_getD, List.getElem?_set_self (by omega)]; rfl
    · rw [if_neg (by omega), if_neg (by omega)]
theorem first_getD (sizes : List Int) (room : Int) (k : Nat) (hk : k < sizes.length) :
    (fillS sizes room (List.range sizes.length) [] (List.replicate sizes.length 0)).getD k 0 = (fitIdx (leftA sizes room k) (sizes.getD k 0) : Nat) := by
  have := fillS_range sizes room sizes.length 0 (List.replicate sizes.length 0) (by omega) (by simp) k hk
  rw [if_neg (by omega)] at this
  rw [List.range_eq_range']; exact this

/-- what is in the boxes -/
def loadOf (room : Int) (l : List Int) : List Int := l.map fun x => room - x
theorem loadOf_length (room : Int) (l : List Int) : (loadOf room l).length = l.length := by simp [loadOf]
theorem loadOf_getD (room : Int) (l : List Int) (j : Nat) (h : j < l.length) : (loadOf room l).getD j 0 = room - l.getD j 0 := by
  unfold loadOf
  rw [List.getD_eq_getElem?_getD, List.getElem?_map, List.getElem?_eq_getElem h, List.getD_eq_getElem?_getD, List.getElem?_eq_getElem h]; rfl
theorem loadOf_in (room : Int) (l : List Int) (s : Int) (h : fitIdx l s < l.length) :
    loadOf room (place room l s) = (loadOf room l).set (fitIdx l s) (room - l.getD (fitIdx l s) 0 + s) := by
  unfold place loadOf
  rw [if_pos h, List.map_set]
  congr 1; omega
theorem loadOf_new (room : Int) (l : List Int) (s : Int) (h : ¬ fitIdx l s < l.length) : loadOf room (place room l s) = loadOf room l ++ [s] := by
  unfold place loadOf
  rw [if_neg h]; simp; omega
end Go.Proofs.YtomgcfjdmoefgaaDoor.BinsPlain
