/- PLAIN LAW: a text cut at its spaces; its last space (no program in sight). -/
import Derived.Lib.Split
import Derived.Lib.SplitLaws
import Derived.Lib.IndexLaws
import Derived.Lib.IndexBytes
import Derived.Lib.LastIndexByte
set_option linter.unusedVariables false
set_option linter.unusedSimpArgs false
namespace SpPlain
open Go

/-- cut at each space -/
def splitSp : List UInt8 → List (List UInt8)
  | [] => [[]]
  | c :: r => if c = 32 then [] :: splitSp r else match splitSp r with
    | [] => [[c]]
    | w :: ws => (c :: w) :: ws
theorem splitSp_no : ∀ l : List UInt8, (32 : UInt8) ∉ l → splitSp l = [l]
  | [], _ => rfl
  | c :: r, h => by
    have hc : c ≠ 32 := fun e => h (by simp [e])
    unfold splitSp
    rw [if_neg hc, splitSp_no r (fun m => h (List.mem_cons_of_mem _ m))]
theorem splitSp_cut : ∀ (a r : List UInt8), (32 : UInt8) ∉ a → splitSp (a ++ 32 :: r) = a :: splitSp r
  | [], r, _ => by simp [splitSp]
  | c :: a, r, h => by
    have hc : c ≠ 32 := fun e => h (by simp [e])
    have ih := splitSp_cut a r (fun m => h (List.mem_cons_of_mem _ m))
    show splitSp (c :: (a ++ 32 :: r)) = _
    rw [splitSp, if_neg hc, ih]
theorem splitSp_pos : ∀ l : List UInt8, 0 < (splitSp l).length
  | [] => by simp [splitSp]
  | c :: r => by
    unfold splitSp
    by_cases h : c = 32
    · rw [if_pos h]; simp
    · rw [if_neg h]
      cases splitSp r <;> simp
theorem splitSp_le : ∀ (l : List UInt8), ∀ x ∈ splitSp l, x.length ≤ l.length
  | [], x, h => by simp [splitSp] at h; simp [h]
  | c :: r, x, h => by
    have ih := splitSp_le r
    have hp := splitSp_pos r
    unfold splitSp at h
    by_cases hc : c = 32
    · rw [if_pos hc] at h
      rcases List.mem_cons.1 h with h | h
      · rw [h]; simp
      · have := ih x h; simp; omega
    · rw [if_neg hc] at h
      cases hs : splitSp r with
      | nil => rw [hs] at hp; simp at hp
      | cons w ws =>
        rw [hs] at h ih
        simp only at h
        rcases List.mem_cons.1 h with h | h
        · have := ih w (by simp); rw [h]; simp; omega
        · have := ih x (List.mem_cons_of_mem _ h); simp; omega
theorem split_is : ∀ (n : Nat) (s : List UInt8), s.length ≤ n → Lib.splitK [32] 0 (Lib.count s [32]) s = splitSp s := by
  intro n
  induction n with
  | zero =>
    intro s h
    obtain rfl := List.eq_nil_of_length_eq_zero (Nat.le_zero.1 h)
    rfl
  | succ n ih =>
    intro s h
    rcases Int.lt_or_le (Lib.index s [32]) 0 with hi | hi
    · have hi1 : Lib.index s [32] = -1 := by have := Lib.index_ge s [32]; omega
      have hno : (32 : UInt8) ∉ s := fun hm => by
        rw [Lib.index_one] at hi1
        obtain ⟨k, hk, e⟩ := List.mem_iff_getElem.1 hm
        exact Lib.indexByte_none hi1 k (by rw [List.getElem?_eq_getElem hk, e])
      rw [Lib.count_miss hi1, splitSp_no s hno]
      rfl
    · obtain ⟨i, hi1⟩ : ∃ i : Nat, Lib.index s [32] = i := ⟨(Lib.index s [32]).toNat, by omega⟩
      have h2 := hi1
      rw [Lib.index_one] at h2
      obtain ⟨h3, h4⟩ := Lib.indexByte_some h2
      obtain ⟨hlt, h3'⟩ := List.getElem?_eq_some_iff.1 h3
      have es : s = s.take i ++ 32 :: s.drop (i + 1) := by
        conv => lhs; rw [← List.take_append_drop i s]
        rw [List.drop_eq_getElem_cons hlt, h3']
      have hno : (32 : UInt8) ∉ s.take i := fun hm => by
        obtain ⟨k, hk, e⟩ := List.mem_iff_getElem.1 hm
        rw [List.length_take] at hk
        rw [List.getElem_take] at e
        exact h4 k (by omega) (by rw [List.getElem?_eq_getElem (by omega), e])
      rw [Lib.count_hit (by simp) hi1, Nat.add_comm 1, Lib.splitK]
      have hne : ¬ (Lib.index s [32] == -1) = true := fun e => by have := beq_iff_eq.1 e; omega
      rw [if_neg hne, show (Lib.index s [32]).toNat = i by omega]
      simp only [List.length_cons, List.length_nil, Nat.zero_add, Nat.add_zero]
      rw [ih (s.drop (i + 1)) (by rw [List.length_drop]; omega)]
      conv => rhs; rw [es]
      rw [splitSp_cut _ _ hno]
theorem words_is (s : ByteArray) : (Lib.splitB ⟨#[32]⟩ 0 (Lib.countB s ⟨#[32]⟩) s).map (·.data.toList) = splitSp s.data.toList := by
  rw [Lib.splitB_data]
  exact split_is _ _ (Nat.le_refl _)
/-- the last space -/
def lastSp (s : List UInt8) : Option Nat := if Lib.lastIndexByte ⟨s.toArray⟩ 32 < 0 then none else some (Lib.lastIndexByte ⟨s.toArray⟩ 32).toNat
theorem last_cases (s : List UInt8) : (lastSp s = none ∧ Lib.lastIndexByte ⟨s.toArray⟩ 32 = -1 ∧ (32 : UInt8) ∉ s) ∨
    ∃ i, lastSp s = some i ∧ Lib.lastIndexByte ⟨s.toArray⟩ 32 = (i : Nat) ∧ i < s.length ∧ s = s.take i ++ 32 :: s.drop (i + 1) ∧ (32 : UInt8) ∉ s.drop (i + 1) := by
  have hsz : (⟨s.toArray⟩ : ByteArray).size = s.length := by simp [ByteArray.size]
  have hat : ∀ j, j < s.length → ((⟨s.toArray⟩ : ByteArray).data[j]!) = s.getD j 0 := fun j hj => by
    simp [List.getElem!_eq_getElem?_getD]
    rfl
  have h32 : ∀ c : UInt8, ((c.toNat : Nat) : Int) = 32 ↔ c = 32 := fun c => by
    constructor
    · intro h
      apply UInt8.toNat_inj.1
      have : c.toNat = 32 := by omega
      rw [this]; rfl
    · intro h; rw [h]; rfl
  unfold lastSp
  rcases Lib.lastIndexByte_spec ⟨s.toArray⟩ 32 with ⟨e, hn⟩ | ⟨i, hi, e, hc, hn⟩
  · refine .inl ⟨by rw [e]; rfl, e, fun hm => ?_⟩
    obtain ⟨k, hk, ek⟩ := List.mem_iff_getElem.1 hm
    refine hn k (by rw [hsz]; exact hk) ?_
    rw [hat k hk, h32, List.getD_eq_getElem?_getD, List.getElem?_eq_getElem hk, ek]; rfl
  · rw [hsz] at hi
    rw [hat i hi, h32, List.getD_eq_getElem?_getD, List.getElem?_eq_getElem hi] at hc
    refine .inr ⟨i, by rw [e, if_neg (by omega)]; congr 1, e, hi, ?_, fun hm => ?_⟩
    · conv => lhs; rw [← List.take_append_drop i s]
      rw [List.drop_eq_getElem_cons hi]
      congr 2
    · obtain ⟨k, hk, ek⟩ := List.mem_iff_getElem.1 hm
      rw [List.length_drop] at hk
      rw [List.getElem_drop] at ek
      refine hn (i + 1 + k) (by omega) (by rw [hsz]; omega) ?_
      rw [hat _ (by omega), h32, List.getD_eq_getElem?_getD, List.getElem?_eq_getElem (by omega), ek]; rfl
theorem lastSp_no (s : List UInt8) (h : (32 : UInt8) ∉ s) : lastSp s = none := by
  rcases last_cases s with ⟨h1, _⟩ | ⟨i, _, _, _, e, _⟩
  · exact h1
  · exact absurd (by rw [e]; simp) h
theorem lastSp_cut (a b : List UInt8) (h : (32 : UInt8) ∉ b) : lastSp (a ++ 32 :: b) = some a.length := by
  rcases last_cases (a ++ 32 :: b) with ⟨_, _, h1⟩ | ⟨i, h1, _, hi, e, h2⟩
  · exact absurd (by simp) h1
  · rw [h1]
    congr 1
    rcases Nat.lt_trichotomy i a.length with c | c | c
    · exfalso
      apply h2
      rw [List.drop_append_of_le_length (by omega)]
      simp
    · exact c
    · exfalso
      apply h
      have h3 : (a ++ 32 :: b)[i]? = some 32 := by
        rw [e, List.getElem?_append_right (by rw [List.length_take]; omega), List.length_take, Nat.min_eq_left (by omega)]
        simp
      rw [List.getElem?_append_right (by omega), show i - a.length = (i - a.length - 1) + 1 by omega, List.getElem?_cons_succ] at h3
      exact List.mem_of_getElem? h3
end SpPlain
