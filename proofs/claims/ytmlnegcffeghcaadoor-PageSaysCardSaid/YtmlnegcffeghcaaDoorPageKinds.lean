/- PLAIN: who goes, as functions (first in, longest ago, asked for last, told); what is missing. -/
import Derived.Test.YtmlnegcffeghcaaDoorPagePlain
namespace PagePlain

/-! ### runs by a function -/
structure Kind where
  pick : Nat → List Int → (Int → Int) → Nat
  note : Bool
def nxt (f : Nat) (K : Kind) (t : Nat) (p : Int) (h : List Int) (s : Int → Int) : List Int :=
  if p ∈ h then h else if h.length = f then h.set (K.pick t h s) p else h ++ [p]
def upd (s : Int → Int) (p : Int) (t : Int) : Int → Int := fun x => if x = p then t else s x
def snx (note : Bool) (t : Nat) (p : Int) (h : List Int) (s : Int → Int) : Int → Int := if p ∈ h ∧ note = false then s else upd s p t
def stp (f : Nat) (l : List Int) (K : Kind) : Nat → List Int × (Int → Int)
  | 0 => ([], fun _ => 0)
  | t + 1 => (nxt f K t (pg l t) (stp f l K t).1 (stp f l K t).2, snx K.note t (pg l t) (stp f l K t).1 (stp f l K t).2)
def hnd (f : Nat) (l : List Int) (K : Kind) (t : Nat) : List Int := (stp f l K t).1
def snc (f : Nat) (l : List Int) (K : Kind) (t : Nat) : Int → Int := (stp f l K t).2
theorem hnd_zero (f l K) : hnd f l K 0 = [] := rfl
theorem snc_zero (f l K) : snc f l K 0 = fun _ => 0 := rfl
theorem hnd_succ (f l K t) : hnd f l K (t + 1) = nxt f K t (pg l t) (hnd f l K t) (snc f l K t) := rfl
theorem snc_succ (f l K t) : snc f l K (t + 1) = snx K.note t (pg l t) (hnd f l K t) (snc f l K t) := rfl
theorem hnd_len (f : Nat) (l : List Int) (K : Kind) : ∀ t, (hnd f l K t).length ≤ f := by
  intro t
  induction t with
  | zero => rw [hnd_zero]; simp
  | succ t ih =>
    rw [hnd_succ]; unfold nxt
    by_cases h1 : pg l t ∈ hnd f l K t
    · rw [if_pos h1]; exact ih
    · rw [if_neg h1]
      by_cases h2 : (hnd f l K t).length = f
      · rw [if_pos h2, List.length_set]; exact ih
      · rw [if_neg h2]; simp; omega
theorem hnd_asked (f : Nat) (l : List Int) (K : Kind) : ∀ t, ∀ x ∈ hnd f l K t, 0 < La l t x := by
  intro t
  induction t with
  | zero => intro x hx; rw [hnd_zero] at hx; simp at hx
  | succ t ih =>
    intro x hx
    simp only [La]
    by_cases e : pg l t = x
    · rw [if_pos e]; omega
    · rw [if_neg e]
      apply ih
      rw [hnd_succ] at hx; unfold nxt at hx
      by_cases h1 : pg l t ∈ hnd f l K t
      · rw [if_pos h1] at hx; exact hx
      · rw [if_neg h1] at hx
        by_cases h2 : (hnd f l K t).length = f
        · rw [if_pos h2] at hx
          rcases mem_set hx with c | c
          · exact c
          · exact absurd c.symm e
        · rw [if_neg h2, List.mem_append, List.mem_singleton] at hx
          rcases hx with c | c
          · exact c
          · exact absurd c.symm e
theorem hnd_run {f : Nat} {l : List Int} {K : Kind} {V : Nat → List Int → Nat → Prop}
    (hp : ∀ t, t < l.length → (hnd f l K t).length = f → pg l t ∉ hnd f l K t → K.pick t (hnd f l K t) (snc f l K t) < f ∧ V t (hnd f l K t) (K.pick t (hnd f l K t) (snc f l K t))) : Run f l V (hnd f l K) := by
  refine ⟨hnd_zero _ _ _, fun t ht => ?_⟩
  rw [hnd_succ]; unfold nxt
  by_cases h1 : pg l t ∈ hnd f l K t
  · rw [if_pos h1]; exact .inl ⟨h1, rfl⟩
  · rw [if_neg h1]
    by_cases h2 : (hnd f l K t).length = f
    · rw [if_pos h2]
      obtain ⟨p1, p2⟩ := hp t ht h2 h1
      exact .inr (.inr ⟨h1, h2, _, p1, p2, rfl⟩)
    · rw [if_neg h2]
      exact .inr (.inl ⟨h1, by have := hnd_len f l K t; omega, rfl⟩)
theorem snc_lru (f : Nat) (l : List Int) (K : Kind) (hK : K.note = true) : ∀ t x, 0 < La l t x → snc f l K t x = (La l t x : Int) - 1 := by
  intro t
  induction t with
  | zero => intro x h; simp [La] at h
  | succ t ih =>
    intro x h
    rw [snc_succ]; unfold snx
    rw [if_neg (by rw [hK]; simp)]
    simp only [La, upd] at h ⊢
    by_cases e : pg l t = x
    · rw [if_pos e, if_pos e.symm]; simp
    · rw [if_neg e, if_neg (fun c => e c.symm)]
      rw [if_neg e] at h
      exact ih x h

/-! ### the least since -/
def lo (s : Int → Int) (h : List Int) : Nat → Nat
  | 0 => 0
  | i + 1 => if s (h.getD i 0) < s (h.getD (lo s h i) 0) then i else lo s h i
theorem lo_lt (s : Int → Int) (h : List Int) : ∀ i, i ≤ h.length → 0 < h.length → lo s h i < h.length
  | 0, _, h0 => h0
  | i + 1, hi, h0 => by
    have := lo_lt s h i (by omega) h0
    simp only [lo]
    split <;> omega
theorem lo_min (s : Int → Int) (h : List Int) : ∀ i, i ≤ h.length → ∀ j, j < i → s (h.getD (lo s h i) 0) ≤ s (h.getD j 0)
  | 0, _, j, hj => by omega
  | i + 1, hi, j, hj => by
    have ih := lo_min s h i (by omega)
    simp only [lo]
    by_cases c : s (h.getD i 0) < s (h.getD (lo s h i) 0)
    · rw [if_pos c]
      rcases Nat.lt_or_ge j i with d | d
      · have := ih j d; omega
      · obtain rfl : j = i := by omega
        exact Int.le_refl _
    · rw [if_neg c]
      rcases Nat.lt_or_ge j i with d | d
      · exact ih j d
      · obtain rfl : j = i := by omega
        omega
def KFifo : Kind := ⟨fun _ h s => lo s h h.length, false⟩
def KLru : Kind := ⟨fun _ h s => lo s h h.length, true⟩
theorem lru_run {f : Nat} {l : List Int} (hf : 0 < f) : Run f l (VLru l) (hnd f l KLru) := by
  refine hnd_run fun t ht hlen hm => ?_
  have h1 := lo_lt (snc f l KLru t) (hnd f l KLru t) _ (Nat.le_refl _) (by omega)
  refine ⟨by rw [hlen] at h1; show lo _ _ _ < f; rw [hlen]; exact h1, fun i hi => ?_⟩
  have h2 := lo_min (snc f l KLru t) (hnd f l KLru t) _ (Nat.le_refl _) i hi
  have a1 := hnd_asked f l KLru t _ (getD_in h1)
  have a2 := hnd_asked f l KLru t _ (getD_in hi)
  rw [snc_lru f l KLru rfl t _ a1, snc_lru f l KLru rfl t _ a2] at h2
  show La l t ((hnd f l KLru t).getD (lo (snc f l KLru t) (hnd f l KLru t) (hnd f l KLru t).length) 0) ≤ _
  omega
theorem fifo_run {f : Nat} {l : List Int} (hf : 0 < f) : Run f l (fun _ _ _ => True) (hnd f l KFifo) := by
  refine hnd_run fun t ht hlen hm => ?_
  have h1 := lo_lt (snc f l KFifo t) (hnd f l KFifo t) _ (Nat.le_refl _) (by omega)
  refine ⟨by rw [hlen] at h1; show lo _ _ _ < f; rw [hlen]; exact h1, trivial⟩

/-! ### who is asked for last -/
def nx (l : List Int) (t : Nat) (p : Int) : Int := if p ∈ l.drop t then ((l.drop t).idxOf p : Nat) else (l.length : Int)
def fr (l : List Int) (t : Nat) (h : List Int) : Nat → Nat × Int
  | 0 => (0, -1)
  | i + 1 => if (fr l t h i).2 < nx l t (h.getD i 0) ∨ nx l t (h.getD i 0) = (fr l t h i).2 ∧ h.getD i 0 < h.getD (fr l t h i).1 0 then (i, nx l t (h.getD i 0)) else fr l t h i
theorem nx_range (l : List Int) (t : Nat) (p : Int) : 0 ≤ nx l t p ∧ nx l t p ≤ l.length := by
  unfold nx
  split
  · rename_i h
    have := List.idxOf_lt_length_of_mem h
    rw [List.length_drop] at this
    omega
  · omega
theorem nx_N {l : List Int} {t : Nat} {x y : Int} (h : nx l t x ≤ nx l t y) : N l t x ≤ N l t y := by
  unfold nx at h; unfold N
  by_cases hy : y ∈ l.drop t
  · rw [if_pos hy] at h
    by_cases hx : x ∈ l.drop t
    · rw [if_pos hx] at h; omega
    · rw [if_neg hx] at h
      have := List.idxOf_lt_length_of_mem hy
      rw [List.length_drop] at this
      omega
  · have h1 : (l.drop t).idxOf y = (l.drop t).length := List.idxOf_eq_length hy
    have h2 : (l.drop t).idxOf x ≤ (l.drop t).length := List.idxOf_le_length
    omega
theorem fr_is (l : List Int) (t : Nat) (h : List Int) : ∀ i, i ≤ h.length → ((i = 0 ∧ fr l t h i = (0, -1)) ∨ ((fr l t h i).1 < i ∧ (fr l t h i).2 = nx l t (h.getD (fr l t h i).1 0))) ∧ ∀ j, j < i → nx l t (h.getD j 0) ≤ (fr l t h i).2
  | 0, _ => ⟨.inl ⟨rfl, rfl⟩, fun j hj => by omega⟩
  | i + 1, hi => by
    obtain ⟨i1, i2⟩ := fr_is l t h i (by omega)
    have hr := nx_range l t (h.getD i 0)
    simp only [fr]
    by_cases c : (fr l t h i).2 < nx l t (h.getD i 0) ∨ nx l t (h.getD i 0) = (fr l t h i).2 ∧ h.getD i 0 < h.getD (fr l t h i).1 0
    · rw [if_pos c]
      refine ⟨.inr ⟨Nat.lt_succ_self _, rfl⟩, fun j hj => ?_⟩
      rcases Nat.lt_or_ge j i with d | d
      · have := i2 j d; show _ ≤ nx l t (h.getD i 0); omega
      · obtain rfl : j = i := by omega
        exact Int.le_refl _
    · rw [if_neg c]
      refine ⟨.inr ?_, fun j hj => ?_⟩
      · rcases i1 with ⟨rfl, e⟩ | e
        · exfalso; apply c; left; rw [e]; show (-1 : Int) < _; omega
        · exact ⟨by omega, e.2⟩
      · rcases Nat.lt_or_ge j i with d | d
        · exact i2 j d
        · obtain rfl : j = i := by omega
          omega
theorem fr_lt (l : List Int) (t : Nat) (h : List Int) (i : Nat) (hi : i ≤ h.length) (h0 : 0 < h.length) : (fr l t h i).1 < h.length := by
  rcases (fr_is l t h i hi).1 with ⟨_, e⟩ | e
  · rw [e]; exact h0
  · omega
def KFar (l : List Int) : Kind := ⟨fun t h _ => (fr l t h h.length).1, false⟩
theorem far_run {f : Nat} {l : List Int} (hf : 0 < f) : Run f l (VFar l) (hnd f l (KFar l)) := by
  refine hnd_run fun t ht hlen hm => ?_
  have h1 := fr_lt l t (hnd f l (KFar l) t) _ (Nat.le_refl _) (by omega)
  obtain ⟨i1, i2⟩ := fr_is l t (hnd f l (KFar l) t) _ (Nat.le_refl _)
  refine ⟨by rw [hlen] at h1; show (fr _ _ _ _).1 < f; rw [hlen]; exact h1, fun i hi => ?_⟩
  apply nx_N
  have := i2 i hi
  rcases i1 with ⟨e, _⟩ | e
  · omega
  · show nx l t _ ≤ nx l t ((hnd f l (KFar l) t).getD (fr l t (hnd f l (KFar l) t) (hnd f l (KFar l) t).length).1 0)
    rw [← e.2]; exact this

/-! ### what is missing -/
def missL (l : List Int) (H : Nat → List Int) : List Bool := (List.range l.length).map fun t => decide (pg l t ∉ H t)
theorem bits_length (l : List Int) (H : Nat → List Int) : (missL l H).length = l.length := by simp [missL]
theorem bits_at (l : List Int) (H : Nat → List Int) {t : Nat} (h : t < l.length) : (missL l H).getD t false = decide (pg l t ∉ H t) := by
  unfold missL
  rw [List.getD_eq_getElem?_getD, List.getElem?_map, List.getElem?_range h]; rfl
def ones (b : List Bool) : Nat → Nat
  | 0 => 0
  | t + 1 => ones b t + if b.getD t false = true then 1 else 0
theorem ones_le (b : List Bool) : ∀ t, ones b t ≤ t
  | 0 => Nat.le_refl _
  | t + 1 => by
    have := ones_le b t
    simp only [ones]; split <;> omega
theorem ones_bits (l : List Int) (H : Nat → List Int) : ∀ t, t ≤ l.length → ones (missL l H) t = mis l H t
  | 0, _ => rfl
  | t + 1, h => by
    have ih := ones_bits l H t (by omega)
    simp only [ones, mis]
    rw [ih, bits_at l H (by omega)]
    by_cases c : pg l t ∈ H t
    · rw [if_pos c, if_neg (by simpa using c)]
    · rw [if_neg c, if_pos (by simpa using c)]
theorem anomaly : mis [1, 2, 3, 4, 1, 2, 5, 1, 2, 3, 4, 5] (hnd 3 [1, 2, 3, 4, 1, 2, 5, 1, 2, 3, 4, 5] KFifo) 12 = 9 ∧ mis [1, 2, 3, 4, 1, 2, 5, 1, 2, 3, 4, 5] (hnd 4 [1, 2, 3, 4, 1, 2, 5, 1, 2, 3, 4, 5] KFifo) 12 = 10 := by
  constructor <;> rfl
end PagePlain
