/- PLAIN LAW: a number as it is written, read again (no program in sight). PLAIN LAW: a text cut at its spaces; its last space (no program in sight). PLAIN LAW: what a line says (no program in sight). PLAIN LAW: a text cut behind each end of a line (no program in sight). PLAIN LAW: what was written, read again (no program in sight). PLAIN LAW: of a beginning of what was written just the whole lines are done (no program in sight). -/
import Derived.Lib.AtoiAll
import Derived.Lib.ItoaNum
import Derived.Lib.Split
import Derived.Lib.SplitLaws
import Derived.Lib.IndexLaws
import Derived.Lib.IndexBytes
import Derived.Lib.LastIndexByte
import Derived.Test.YtfejlkgddnamoaaGreatDoorBkOne
import Derived.Lib.Strings
import Derived.Lib.Bytealg
set_option linter.unusedVariables false
set_option linter.unusedSimpArgs false
section
namespace NumPlain
open Go.Lib

/-- a number, as it is written -/
def numP (s : List UInt8) : Option Int := match atoiAll s with
  | .ok v => if itoa v = s then some v else none
  | _ => none
theorem numP_some {s : List UInt8} {v : Int} (h : numP s = some v) : s = itoa v ∧ atoiAll s = .ok v := by
  unfold numP at h
  cases ha : atoiAll s with
  | ok u =>
    rw [ha] at h
    simp only at h
    by_cases e : itoa u = s
    · rw [if_pos e] at h
      cases h
      exact ⟨e.symm, rfl⟩
    · rw [if_neg e] at h; cases h
  | _ => rw [ha] at h; cases h
theorem parse_snoc : ∀ (l : List UInt8) (c : UInt8) (acc : Nat), parseUint10 acc (l ++ [c]) = match parseUint10 acc l with
    | .ok a => parseUint10 a [c]
    | r => r
  | [], c, acc => by simp [parseUint10]
  | d :: l, c, acc => by
    show parseUint10 acc (d :: (l ++ [c])) = _
    unfold parseUint10
    by_cases h1 : 48 ≤ d.toNat ∧ d.toNat ≤ 57
    · rw [if_pos h1, if_pos h1]
      by_cases h2 : 1844674407370955162 ≤ acc
      · rw [if_pos h2, if_pos h2]
      · rw [if_neg h2, if_neg h2]
        by_cases h3 : 18446744073709551616 ≤ acc * 10 + (d.toNat - 48)
        · rw [if_pos h3, if_pos h3]
        · rw [if_neg h3, if_neg h3]
          exact parse_snoc l c _
    · rw [if_neg h1, if_neg h1]
theorem digit_nat {k : Nat} (h : k < 10) : (UInt8.ofNat (48 + k)).toNat = 48 + k := by
  rw [UInt8.toNat_ofNat']; omega
theorem parse_one (a k : Nat) (h : k < 10) (hb : a * 10 + k < 18446744073709551616) : parseUint10 a [UInt8.ofNat (48 + k)] = .ok (a * 10 + k) := by
  unfold parseUint10
  rw [digit_nat h, if_pos (by omega), if_neg (by omega), if_neg (by omega)]
  simp only [parseUint10]
  congr 1
  omega
theorem parse_dec (u : Nat) (h : u < 18446744073709551616) : parseUint10 0 (decDigits u) = .ok u := by
  rw [decDigits]
  by_cases hu : u < 10
  · rw [dif_pos hu, parse_one 0 u hu (by omega)]
    simp
  · rw [dif_neg hu, parse_snoc, parse_dec (u / 10) (by omega)]
    simp only
    rw [parse_one _ _ (Nat.mod_lt _ (by decide)) (by omega)]
    congr 1
    omega
termination_by u
theorem dec_ne (u : Nat) : decDigits u ≠ [] := by
  rw [decDigits]
  by_cases hu : u < 10
  · rw [dif_pos hu]; simp
  · rw [dif_neg hu]; simp
theorem dec_digits (u : Nat) : ∀ c ∈ decDigits u, 48 ≤ c.toNat ∧ c.toNat ≤ 57 := by
  rw [decDigits]
  by_cases hu : u < 10
  · rw [dif_pos hu]
    intro c hc
    rw [List.mem_singleton] at hc
    rw [hc, digit_nat hu]; omega
  · rw [dif_neg hu]
    intro c hc
    rcases List.mem_append.1 hc with hc | hc
    · exact dec_digits (u / 10) c hc
    · rw [List.mem_singleton] at hc
      rw [hc, digit_nat (Nat.mod_lt _ (by decide))]; omega
termination_by u
theorem mag_dec (u : Nat) (h : u < 18446744073709551616) : parseMag (decDigits u) = .ok u := by
  unfold parseMag
  rw [if_neg (dec_ne u), parse_dec u h]
theorem atoi_itoa (n : Int) (h0 : -9223372036854775808 ≤ n) (h1 : n ≤ 9223372036854775807) : atoiAll (itoa n) = .ok n := by
  unfold itoa
  by_cases hn : n < 0
  · rw [if_pos hn]
    have e : parseMag (decDigits n.natAbs) = .ok n.natAbs := mag_dec _ (by omega)
    unfold atoiAll
    have h45 : (45 : UInt8).toNat = 45 := rfl
    simp only [h45, or_true, if_true, e, not_true_eq_false, false_and, if_false, true_and]
    rw [if_neg (by omega)]
    congr 1
    omega
  · rw [if_neg hn]
    have e : parseMag (decDigits n.toNat) = .ok n.toNat := mag_dec _ (by omega)
    cases hd : decDigits n.toNat with
    | nil => exact absurd hd (dec_ne _)
    | cons c r =>
      have hc := dec_digits n.toNat c (by rw [hd]; simp)
      rw [hd] at e
      unfold atoiAll
      have h1' : ¬ (c.toNat = 43 ∨ c.toNat = 45) := by omega
      have h2' : ¬ (c.toNat = 45) := by omega
      have e3 : ¬ (9223372036854775808 ≤ n.toNat) := by omega
      have e4 : ((n.toNat : Nat) : Int) = n := by omega
      have h5' : ¬ (c.toNat = 43) := by omega
      simp [h5', h2', e, e3, e4]
theorem numP_itoa (n : Int) (h0 : -9223372036854775808 ≤ n) (h1 : n ≤ 9223372036854775807) : numP (itoa n) = some n := by
  unfold numP
  rw [atoi_itoa n h0 h1]
  simp
/-- a number holds neither a space nor an end of a line -/
theorem itoa_chars (n : Int) : ∀ c ∈ itoa n, c.toNat = 45 ∨ (48 ≤ c.toNat ∧ c.toNat ≤ 57) := by
  intro c hc
  unfold itoa at hc
  by_cases hn : n < 0
  · rw [if_pos hn] at hc
    rcases List.mem_cons.1 hc with h | h
    · left; rw [h]; rfl
    · exact .inr (dec_digits _ c h)
  · rw [if_neg hn] at hc
    exact .inr (dec_digits _ c hc)
theorem itoa_no (n : Int) (b : UInt8) (hb : b.toNat < 45) : b ∉ itoa n := fun h => by
  have := itoa_chars n b h
  omega
theorem itoa_ne (n : Int) : itoa n ≠ [] := by
  unfold itoa
  by_cases hn : n < 0
  · rw [if_pos hn]; simp
  · rw [if_neg hn]; exact dec_ne _
theorem itoa_inj {a b : Int} (ha : -9223372036854775808 ≤ a ∧ a ≤ 9223372036854775807) (hb : -9223372036854775808 ≤ b ∧ b ≤ 9223372036854775807) (h : itoa a = itoa b) : a = b := by
  have h1 := numP_itoa a ha.1 ha.2
  have h2 := numP_itoa b hb.1 hb.2
  rw [h, h2] at h1
  exact (Option.some.inj h1).symm
end NumPlain
end

section
namespace SpPlain
open Go

/-- cut at each space -/
def splitSp : List UInt8 → List (List UInt8)
  | [] => [[]]
  | c :: r => if c = 32 then [] :: splitSp r else match splitSp r with
    | [] => [[c]]
    | w :: ws => (c :: w) :: ws
theorem splitSp_no : ∀ l : List UInt8, (32 : UInt8) ∉ l → splitSp l = [l]
  | [], _ => rfl
  | c :: r, h => by
    have hc : c ≠ 32 := fun e => h (by simp [e])
    unfold splitSp
    rw [if_neg hc, splitSp_no r (fun m => h (List.mem_cons_of_mem _ m))]
theorem splitSp_cut : ∀ (a r : List UInt8), (32 : UInt8) ∉ a → splitSp (a ++ 32 :: r) = a :: splitSp r
  | [], r, _ => by simp [splitSp]
  | c :: a, r, h => by
    have hc : c ≠ 32 := fun e => h (by simp [e])
    have ih := splitSp_cut a r (fun m => h (List.mem_cons_of_mem _ m))
    show splitSp (c :: (a ++ 32 :: r)) = _
    rw [splitSp, if_neg hc, ih]
theorem splitSp_pos : ∀ l : List UInt8, 0 < (splitSp l).length
  | [] => by simp [splitSp]
  | c :: r => by
    unfold splitSp
    by_cases h : c = 32
    · rw [if_pos h]; simp
    · rw [if_neg h]
      cases splitSp r <;> simp
theorem splitSp_le : ∀ (l : List UInt8), ∀ x ∈ splitSp l, x.length ≤ l.length
  | [], x, h => by simp [splitSp] at h; simp [h]
  | c :: r, x, h => by
    have ih := splitSp_le r
    have hp := splitSp_pos r
    unfold splitSp at h
    by_cases hc : c = 32
    · rw [if_pos hc] at h
      rcases List.mem_cons.1 h with h | h
      · rw [h]; simp
      · have := ih x h; simp; omega
    · rw [if_neg hc] at h
      cases hs : splitSp r with
      | nil => rw [hs] at hp; simp at hp
      | cons w ws =>
        rw [hs] at h ih
        simp only at h
        rcases List.mem_cons.1 h with h | h
        · have := ih w (by simp); rw [h]; simp; omega
        · have := ih x (List.mem_cons_of_mem _ h); simp; omega
theorem split_is : ∀ (n : Nat) (s : List UInt8), s.length ≤ n → Lib.splitK [32] 0 (Lib.count s [32]) s = splitSp s := by
  intro n
  induction n with
  | zero =>
    intro s h
    obtain rfl := List.eq_nil_of_length_eq_zero (Nat.le_zero.1 h)
    rfl
  | succ n ih =>
    intro s h
    rcases Int.lt_or_le (Lib.index s [32]) 0 with hi | hi
    · have hi1 : Lib.index s [32] = -1 := by have := Lib.index_ge s [32]; omega
      have hno : (32 : UInt8) ∉ s := fun hm => by
        rw [Lib.index_one] at hi1
        obtain ⟨k, hk, e⟩ := List.mem_iff_getElem.1 hm
        exact Lib.indexByte_none hi1 k (by rw [List.getElem?_eq_getElem hk, e])
      rw [Lib.count_miss hi1, splitSp_no s hno]
      rfl
    · obtain ⟨i, hi1⟩ : ∃ i : Nat, Lib.index s [32] = i := ⟨(Lib.index s [32]).toNat, by omega⟩
      have h2 := hi1
      rw [Lib.index_one] at h2
      obtain ⟨h3, h4⟩ := Lib.indexByte_some h2
      obtain ⟨hlt, h3'⟩ := List.getElem?_eq_some_iff.1 h3
      have es : s = s.take i ++ 32 :: s.drop (i + 1) := by
        conv => lhs; rw [← List.take_append_drop i s]
        rw [List.drop_eq_getElem_cons hlt, h3']
      have hno : (32 : UInt8) ∉ s.take i := fun hm => by
        obtain ⟨k, hk, e⟩ := List.mem_iff_getElem.1 hm
        rw [List.length_take] at hk
        rw [List.getElem_take] at e
        exact h4 k (by omega) (by rw [List.getElem?_eq_getElem (by omega), e])
      rw [Lib.count_hit (by simp) hi1, Nat.add_comm 1, Lib.splitK]
      have hne : ¬ (Lib.index s [32] == -1) = true := fun e => by have := beq_iff_eq.1 e; omega
      rw [if_neg hne, show (Lib.index s [32]).toNat = i by omega]
      simp only [List.length_cons, List.length_nil, Nat.zero_add, Nat.add_zero]
      rw [ih (s.drop (i + 1)) (by rw [List.length_drop]; omega)]
      conv => rhs; rw [es]
      rw [splitSp_cut _ _ hno]
theorem words_is (s : ByteArray) : (Lib.splitB ⟨#[32]⟩ 0 (Lib.countB s ⟨#[32]⟩) s).map (·.data.toList) = splitSp s.data.toList := by
  rw [Lib.splitB_data]
  exact split_is _ _ (Nat.le_refl _)
/-- the last space -/
def lastSp (s : List UInt8) : Option Nat := if Lib.lastIndexByte ⟨s.toArray⟩ 32 < 0 then none else some (Lib.lastIndexByte ⟨s.toArray⟩ 32).toNat
theorem last_cases (s : List UInt8) : (lastSp s = none ∧ Lib.lastIndexByte ⟨s.toArray⟩ 32 = -1 ∧ (32 : UInt8) ∉ s) ∨
    ∃ i, lastSp s = some i ∧ Lib.lastIndexByte ⟨s.toArray⟩ 32 = (i : Nat) ∧ i < s.length ∧ s = s.take i ++ 32 :: s.drop (i + 1) ∧ (32 : UInt8) ∉ s.drop (i + 1) := by
  have hsz : (⟨s.toArray⟩ : ByteArray).size = s.length := by simp [ByteArray.size]
  have hat : ∀ j, j < s.length → ((⟨s.toArray⟩ : ByteArray).data[j]!) = s.getD j 0 := fun j hj => by
    simp [List.getElem!_eq_getElem?_getD]
    rfl
  have h32 : ∀ c : UInt8, ((c.toNat : Nat) : Int) = 32 ↔ c = 32 := fun c => by
    constructor
    · intro h
      apply UInt8.toNat_inj.1
      have : c.toNat = 32 := by omega
      rw [this]; rfl
    · intro h; rw [h]; rfl
  unfold lastSp
  rcases Lib.lastIndexByte_spec ⟨s.toArray⟩ 32 with ⟨e, hn⟩ | ⟨i, hi, e, hc, hn⟩
  · refine .inl ⟨by rw [e]; rfl, e, fun hm => ?_⟩
    obtain ⟨k, hk, ek⟩ := List.mem_iff_getElem.1 hm
    refine hn k (by rw [hsz]; exact hk) ?_
    rw [hat k hk, h32, List.getD_eq_getElem?_getD, List.getElem?_eq_getElem hk, ek]; rfl
  · rw [hsz] at hi
    rw [hat i hi, h32, List.getD_eq_getElem?_getD, List.getElem?_eq_getElem hi] at hc
    refine .inr ⟨i, by rw [e, if_neg (by omega)]; congr 1, e, hi, ?_, fun hm => ?_⟩
    · conv => lhs; rw [← List.take_append_drop i s]
      rw [List.drop_eq_getElem_cons hi]
      congr 2
    · obtain ⟨k, hk, ek⟩ := List.mem_iff_getElem.1 hm
      rw [List.length_drop] at hk
      rw [List.getElem_drop] at ek
      refine hn (i + 1 + k) (by omega) (by rw [hsz]; omega) ?_
      rw [hat _ (by omega), h32, List.getD_eq_getElem?_getD, List.getElem?_eq_getElem (by omega), ek]; rfl
theorem lastSp_no (s : List UInt8) (h : (32 : UInt8) ∉ s) : lastSp s = none := by
  rcases last_cases s with ⟨h1, _⟩ | ⟨i, _, _, _, e, _⟩
  · exact h1
  · exact absurd (by rw [e]; simp) h
theorem lastSp_cut (a b : List UInt8) (h : (32 : UInt8) ∉ b) : lastSp (a ++ 32 :: b) = some a.length := by
  rcases last_cases (a ++ 32 :: b) with ⟨_, _, h1⟩ | ⟨i, h1, _, hi, e, h2⟩
  · exact absurd (by simp) h1
  · rw [h1]
    congr 1
    rcases Nat.lt_trichotomy i a.length with c | c | c
    · exfalso
      apply h2
      rw [List.drop_append_of_le_length (by omega)]
      simp
    · exact c
    · exfalso
      apply h
      have h3 : (a ++ 32 :: b)[i]? = some 32 := by
        rw [e, List.getElem?_append_right (by rw [List.length_take]; omega), List.length_take, Nat.min_eq_left (by omega)]
        simp
      rw [List.getElem?_append_right (by omega), show i - a.length = (i - a.length - 1) + 1 by omega, List.getElem?_cons_succ] at h3
      exact List.mem_of_getElem? h3
end SpPlain
end

section
namespace Go.Proofs.YtfejlkgddnamoaaGreatDoor
open Go Go.RowKit SimPlain BookPlain NumPlain SpPlain

def popS (st : St) : St × Int := match st.q with
  | [] => (st, 5)
  | _ :: q => (⟨q, st.seq, st.T ++ lineB popB⟩, 0)
/-- the words of a line, done -/
def pushW : List UInt8 := [112, 117, 115, 104]
def wordsP (st : St) (ws : List (List UInt8)) : St × Int :=
  if ws.length = 1 ∧ ws.getD 0 [] = popB then popS st
  else if ws.length = 3 ∧ ws.getD 0 [] = pushW then
    match numP (ws.getD 1 []), numP (ws.getD 2 []) with
    | some k, some i => (pushS st ⟨k, i, 0⟩, pcode st ⟨k, i, 0⟩)
    | _, _ => (st, 2)
  else (st, 2)
/-- a line, done -/
def lineP (st : St) (s : List UInt8) : St × Int :=
  match lastSp s with
  | none => (st, 2)
  | some at_ => match numP (s.drop (at_ + 1)) with
    | none => (st, 2)
    | some n => if n = (sumB (s.take at_) : Nat) then wordsP st (splitSp (s.take at_)) else (st, 7)
/-- a line as it is written, without its end -/
def bodyB (s : List UInt8) : List UInt8 := s ++ 32 :: Lib.itoa (sumB s : Nat)
theorem lineB_body (s : List UInt8) : lineB s = bodyB s ++ [10] := by simp [lineB, bodyB]
theorem lineP_body (st : St) (s : List UInt8) : lineP st (bodyB s) = wordsP st (splitSp s) := by
  have hb : sumB s < 9973 := by
    unfold sumB; exact sumAt_lt s s.length
  unfold lineP bodyB
  rw [lastSp_cut _ _ (itoa_no _ 32 (by decide))]
  simp only
  rw [List.take_left, show s.length + 1 = (s ++ [32]).length by simp, show s ++ 32 :: Lib.itoa (sumB s : Nat) = (s ++ [32]) ++ Lib.itoa (sumB s : Nat) by simp, List.drop_left, numP_itoa _ (by omega) (by omega)]
  simp
theorem words_pop (st : St) : wordsP st (splitSp popB) = popS st := rfl
theorem words_push (st : St) (t id : Int) (h : okE ⟨t, id, 0⟩ = true) : wordsP st (splitSp (pushB t id)) = (pushS st ⟨t, id, 0⟩, pcode st ⟨t, id, 0⟩) := by
  obtain ⟨t0, t1, d0, d1⟩ := okE_of h
  have e : pushB t id = pushW ++ 32 :: (Lib.itoa t ++ 32 :: Lib.itoa id) := by simp [pushB, pushW]
  have h32 : ∀ n : Int, (32 : UInt8) ∉ Lib.itoa n := fun n => itoa_no n 32 (by decide)
  rw [e, splitSp_cut _ _ (by decide), splitSp_cut _ _ (h32 t), splitSp_no _ (h32 id)]
  unfold wordsP
  rw [if_neg (by simp), if_pos (by simp)]
  simp only [List.getD_cons_succ, List.getD_cons_zero]
  rw [numP_itoa t (by omega) (by omega), numP_itoa id (by omega) (by omega)]
end Go.Proofs.YtfejlkgddnamoaaGreatDoor
end

section
namespace LinesPlain
/-- the first line, with its end, and what is left -/
def cutL : List UInt8 → List UInt8 × List UInt8
  | [] => ([], [])
  | c :: r => if c = 10 then ([10], r) else (c :: (cutL r).1, (cutL r).2)
theorem cutL_app : ∀ s, (cutL s).1 ++ (cutL s).2 = s
  | [] => rfl
  | c :: r => by
    unfold cutL
    by_cases h : c = 10
    · rw [if_pos h]; simp [h]
    · rw [if_neg h]; simp [cutL_app r]
theorem cutL_len : ∀ s, s ≠ [] → 0 < (cutL s).1.length
  | [], h => absurd rfl h
  | c :: r, _ => by
    unfold cutL
    by_cases h : c = 10
    · rw [if_pos h]; simp
    · rw [if_neg h]; simp
theorem cutL_sum (s : List UInt8) : (cutL s).1.length + (cutL s).2.length = s.length := by
  have := congrArg List.length (cutL_app s)
  rwa [List.length_append] at this
def linesN : Nat → List UInt8 → List (List UInt8)
  | 0, _ => []
  | n + 1, s => if s = [] then [] else (cutL s).1 :: linesN n (cutL s).2
theorem linesN_eq : ∀ n m s, s.length ≤ n → s.length ≤ m → linesN n s = linesN m s
  | 0, 0, _, _, _ => rfl
  | 0, m + 1, s, h, _ => by
    obtain rfl := List.eq_nil_of_length_eq_zero (Nat.le_zero.1 h)
    simp [linesN]
  | n + 1, 0, s, _, h => by
    obtain rfl := List.eq_nil_of_length_eq_zero (Nat.le_zero.1 h)
    simp [linesN]
  | n + 1, m + 1, s, h, h' => by
    unfold linesN
    by_cases hs : s = []
    · rw [if_pos hs, if_pos hs]
    · rw [if_neg hs, if_neg hs]
      have h1 := cutL_len s hs
      have h2 := cutL_sum s
      rw [linesN_eq n m (cutL s).2 (by omega) (by omega)]
def linesOf (s : List UInt8) : List (List UInt8) := linesN s.length s
theorem linesOf_nil : linesOf [] = [] := rfl
theorem linesOf_cut (s : List UInt8) (h : s ≠ []) : linesOf s = (cutL s).1 :: linesOf (cutL s).2 := by
  have h1 := cutL_len s h
  have h2 := cutL_sum s
  have h0 : 0 < s.length := List.length_pos_iff.2 h
  unfold linesOf
  obtain ⟨k, hk⟩ : ∃ k, s.length = k + 1 := ⟨s.length - 1, by omega⟩
  rw [hk]
  rw [linesN, if_neg h]
  rw [linesN_eq k (cutL s).2.length (cutL s).2 (by omega) (Nat.le_refl _)]
/-- a line that ends, and the rest -/
theorem cutL_end : ∀ (l r : List UInt8), (10 : UInt8) ∉ l → cutL (l ++ 10 :: r) = (l ++ [10], r)
  | [], r, _ => by simp [cutL]
  | c :: l, r, h => by
    have hc : c ≠ 10 := fun e => h (by simp [e])
    have ih := cutL_end l r (fun m => h (List.mem_cons_of_mem _ m))
    show cutL (c :: (l ++ 10 :: r)) = _
    unfold cutL
    rw [if_neg hc, ih]
    simp
theorem cutL_no : ∀ (l : List UInt8), (10 : UInt8) ∉ l → cutL l = (l, [])
  | [], _ => rfl
  | c :: l, h => by
    have hc : c ≠ 10 := fun e => h (by simp [e])
    have ih := cutL_no l (fun m => h (List.mem_cons_of_mem _ m))
    unfold cutL
    rw [if_neg hc, ih]
theorem linesOf_end (l r : List UInt8) (h : (10 : UInt8) ∉ l) : linesOf (l ++ 10 :: r) = (l ++ [10]) :: linesOf r := by
  rw [linesOf_cut _ (by simp), cutL_end l r h]
theorem linesOf_no (l : List UInt8) (h : (10 : UInt8) ∉ l) (h0 : l ≠ []) : linesOf l = [l] := by
  rw [linesOf_cut _ h0, cutL_no l h, linesOf_nil]
/-- where the end stands -/
theorem indexByte_cut : ∀ s : List UInt8, (Go.Lib.indexByte s 10 = -1 ∧ cutL s = (s, [])) ∨ ∃ i : Nat, Go.Lib.indexByte s 10 = i ∧ i < s.length ∧ cutL s = (s.take (i + 1), s.drop (i + 1))
  | [] => .inl ⟨rfl, rfl⟩
  | c :: r => by
    by_cases h : c = 10
    · refine .inr ⟨0, ?_, by simp, ?_⟩
      · simp [Go.Lib.indexByte, h]
      · simp [cutL, h]
    · have hb : (c == 10) = false := by rw [beq_eq_false_iff_ne]; exact h
      rcases indexByte_cut r with ⟨h1, h2⟩ | ⟨i, h1, h2, h3⟩
      · refine .inl ⟨?_, ?_⟩
        · simp [Go.Lib.indexByte, hb, h1]
        · simp [cutL, h, h2]
      · refine .inr ⟨i + 1, ?_, by simp; omega, ?_⟩
        · have : ¬ ((i : Int) = -1) := by omega
          simp [Go.Lib.indexByte, hb, h1, this]
        · simp [cutL, h, h3]
end LinesPlain
end

section
namespace Go.Proofs.YtfejlkgddnamoaaGreatDoor
open Go Go.RowKit SimPlain BookPlain NumPlain SpPlain LinesPlain

inductive Cmd where
  | push (t id : Int)
  | pop
def cmdB : Cmd → List UInt8
  | .push t id => pushB t id
  | .pop => popB
def doC (st : St) : Cmd → St
  | .push t id => pushS st ⟨t, id, 0⟩
  | .pop => (popS st).1
def good (st : St) : Cmd → Prop
  | .push t id => okE ⟨t, id, 0⟩ = true ∧ st.q.length < 60
  | .pop => st.q ≠ []
/-- the line of a command -/
def cmdL (c : Cmd) : List UInt8 := lineB (cmdB c)
theorem cmdL_body (c : Cmd) : cmdL c = bodyB (cmdB c) ++ [10] := lineB_body _
theorem doC_push {st : St} {t id : Int} (h : good st (.push t id)) : doC st (.push t id) = ⟨ins ⟨t, id, st.seq + 1⟩ st.q, st.seq + 1, st.T ++ lineB (pushB t id)⟩ := by
  show pushS st ⟨t, id, 0⟩ = _
  unfold pushS
  rw [if_pos h.1, if_pos h.2]
theorem doC_T {st : St} {c : Cmd} (h : good st c) : (doC st c).T = st.T ++ cmdL c := by
  cases c with
  | push t id => rw [doC_push h]; rfl
  | pop =>
    obtain ⟨q, seq, T⟩ := st
    cases q with
    | nil => exact absurd rfl h
    | cons x q => rfl
theorem line_good {st : St} {c : Cmd} (h : good st c) : lineP st (bodyB (cmdB c)) = (doC st c, 0) := by
  rw [lineP_body]
  cases c with
  | push t id =>
    show wordsP st (splitSp (pushB t id)) = _
    rw [words_push st t id h.1]
    have : pcode st ⟨t, id, 0⟩ = 0 := by unfold pcode; rw [if_pos h.1, if_pos h.2]
    rw [this]; rfl
  | pop =>
    show wordsP st (splitSp popB) = _
    rw [words_pop]
    obtain ⟨q, seq, T⟩ := st
    cases q with
    | nil => exact absurd rfl h
    | cons x q => rfl
def runC (st : St) (cs : List Cmd) : St := cs.foldl doC st
def Goods : St → List Cmd → Prop
  | _, [] => True
  | st, c :: cs => good st c ∧ Goods (doC st c) cs
theorem goods_snoc : ∀ (cs : List Cmd) (st : St) (c : Cmd), Goods st cs → good (runC st cs) c → Goods st (cs ++ [c])
  | [], st, c, _, h => ⟨h, trivial⟩
  | d :: cs, st, c, h, h' => ⟨h.1, goods_snoc cs (doC st d) c h.2 h'⟩
theorem goods_take : ∀ (cs : List Cmd) (st : St) (m : Nat), Goods st cs → Goods st (cs.take m)
  | [], st, m, _ => by simp [Goods]
  | d :: cs, st, 0, h => by simp [Goods]
  | d :: cs, st, m + 1, h => ⟨h.1, goods_take cs (doC st d) m h.2⟩
theorem runC_snoc (st : St) (cs : List Cmd) (c : Cmd) : runC st (cs ++ [c]) = doC (runC st cs) c := by simp [runC]
theorem runC_T : ∀ (cs : List Cmd) (st : St), Goods st cs → (runC st cs).T = st.T ++ cs.flatMap cmdL
  | [], st, _ => by simp [runC]
  | c :: cs, st, h => by
    have ih := runC_T cs (doC st c) h.2
    show (runC (doC st c) cs).T = _
    rw [ih, doC_T h.1, List.flatMap_cons, List.append_assoc]
/-- no end of a line stands within one -/
theorem no_end {s : List UInt8} (h : (10 : UInt8) ∉ s) : (10 : UInt8) ∉ bodyB s := by
  unfold bodyB
  intro hm
  rcases List.mem_append.1 hm with h1 | h1
  · exact h h1
  · rcases List.mem_cons.1 h1 with h2 | h2
    · exact absurd h2 (by decide)
    · exact itoa_no _ 10 (by decide) h2
theorem cmd_no_end (c : Cmd) : (10 : UInt8) ∉ bodyB (cmdB c) := by
  apply no_end
  cases c with
  | push t id =>
    show (10 : UInt8) ∉ pushB t id
    unfold pushB
    intro hm
    simp only [List.mem_append] at hm
    rcases hm with ((h | h) | h) | h
    · exact absurd h (by decide)
    · exact itoa_no _ 10 (by decide) h
    · exact absurd h (by decide)
    · exact itoa_no _ 10 (by decide) h
  | pop => exact (by decide : (10 : UInt8) ∉ popB)
def tail1 (p : List UInt8) : List (List UInt8) := if p = [] then [] else [p]
theorem linesOf_cmds : ∀ (cs : List Cmd) (p : List UInt8), (10 : UInt8) ∉ p → linesOf (cs.flatMap cmdL ++ p) = cs.map cmdL ++ tail1 p
  | [], p, h => by
    unfold tail1
    by_cases h0 : p = []
    · rw [if_pos h0, h0]; rfl
    · rw [if_neg h0]; exact linesOf_no p h h0
  | c :: cs, p, h => by
    have e : (c :: cs).flatMap cmdL ++ p = bodyB (cmdB c) ++ 10 :: (cs.flatMap cmdL ++ p) := by
      rw [List.flatMap_cons, cmdL_body]; simp
    rw [e, linesOf_end _ _ (cmd_no_end c), linesOf_cmds cs p h, List.map_cons, cmdL_body]; rfl
/-- a beginning of what was written -/
theorem take_cmds : ∀ (cs : List Cmd) (k : Nat), k ≤ (cs.flatMap cmdL).length → ∃ m p, (cs.flatMap cmdL).take k = (cs.take m).flatMap cmdL ++ p ∧ (10 : UInt8) ∉ p ∧ m ≤ cs.length
  | [], k, _ => ⟨0, [], by simp, by simp, by simp⟩
  | c :: cs, k, h => by
    rcases Nat.lt_or_ge k (cmdL c).length with hk | hk
    · refine ⟨0, (bodyB (cmdB c)).take k, ?_, fun hm => cmd_no_end c (List.mem_of_mem_take hm), Nat.zero_le _⟩
      rw [cmdL_body, List.length_append] at hk
      simp only [List.length_cons, List.length_nil] at hk
      rw [List.flatMap_cons, cmdL_body, List.append_assoc, List.take_append_of_le_length (by omega)]
      simp
    · rw [List.flatMap_cons, List.length_append] at h
      obtain ⟨m, p, e, hp, hm⟩ := take_cmds cs (k - (cmdL c).length) (by omega)
      refine ⟨m + 1, p, ?_, hp, by simp; omega⟩
      rw [List.flatMap_cons, List.take_append, List.take_of_length_le hk, e, List.take_succ_cons, List.flatMap_cons, List.append_assoc]
theorem count_cmds : ∀ (cs : List Cmd), (cs.flatMap cmdL).count 10 = cs.length
  | [] => rfl
  | c :: cs => by
    rw [List.flatMap_cons, List.count_append, count_cmds cs, cmdL_body, List.count_append, List.count_eq_zero.2 (cmd_no_end c)]
    simp; omega
/-- the lines, done one after the other: the state, how many, the first fault -/
def openP : St → List (List UInt8) → St × Nat × Int
  | st, [] => (st, 0, 0)
  | st, x :: xs => if Lib.hasSuffix x [10] = true then
      (if (lineP st (Lib.trimSuffix x [10])).2 = 0 then ((openP (lineP st (Lib.trimSuffix x [10])).1 xs).1, (openP (lineP st (Lib.trimSuffix x [10])).1 xs).2.1 + 1, (openP (lineP st (Lib.trimSuffix x [10])).1 xs).2.2)
       else ((lineP st (Lib.trimSuffix x [10])).1, 1, (lineP st (Lib.trimSuffix x [10])).2))
      else (st, 0, 0)
theorem suffix_end (l : List UInt8) : Lib.hasSuffix (l ++ [10]) [10] = true := by
  unfold Lib.hasSuffix
  rw [List.isSuffixOf_iff_suffix]
  exact ⟨l, rfl⟩
theorem trim_end (l : List UInt8) : Lib.trimSuffix (l ++ [10]) [10] = l := by
  unfold Lib.trimSuffix
  rw [if_pos (suffix_end l)]
  simp
theorem suffix_no {l : List UInt8} (h : (10 : UInt8) ∉ l) : Lib.hasSuffix l [10] = false := by
  rw [Bool.eq_false_iff]
  intro c
  unfold Lib.hasSuffix at c
  rw [List.isSuffixOf_iff_suffix] at c
  obtain ⟨t, e⟩ := c
  exact h (by rw [← e]; simp)
theorem openP_cmds : ∀ (cs : List Cmd) (st : St) (p : List UInt8), Goods st cs → (10 : UInt8) ∉ p → openP st (cs.map cmdL ++ tail1 p) = (runC st cs, cs.length, 0)
  | [], st, p, _, hp => by
    unfold tail1
    by_cases h0 : p = []
    · rw [if_pos h0]; rfl
    · rw [if_neg h0]
      simp [openP, suffix_no hp, runC]
  | c :: cs, st, p, h, hp => by
    have ih := openP_cmds cs (doC st c) p h.2 hp
    rw [List.map_cons, List.cons_append, openP, cmdL_body, suffix_end, trim_end, line_good h.1, if_pos rfl, if_pos rfl, ih]
    rfl
/-- what a step of a session does -/
def stepC (s : St) (e : Ev) : Option Cmd :=
  if e.id = 7 then (match s.q with | [] => none | _ :: _ => some .pop)
  else if okE ⟨e.t, e.id, 0⟩ = true then (if s.q.length < 60 then some (.push e.t e.id) else none) else none
theorem stepC_good {s : St} {e : Ev} {c : Cmd} (h : stepC s e = some c) : good s c ∧ stepB s e = doC s c := by
  unfold stepC at h
  unfold stepB
  by_cases h7 : e.id = 7
  · rw [if_pos h7] at h ⊢
    obtain ⟨q, seq, T⟩ := s
    cases q with
    | nil => cases h
    | cons x q =>
      simp only [Option.some.injEq] at h
      subst h
      exact ⟨by simp [good], rfl⟩
  · rw [if_neg h7] at h ⊢
    by_cases hok : okE ⟨e.t, e.id, 0⟩ = true
    · rw [if_pos hok] at h ⊢
      by_cases h60 : s.q.length < 60
      · rw [if_pos h60] at h ⊢
        simp only [Option.some.injEq] at h
        subst h
        exact ⟨⟨hok, h60⟩, (doC_push ⟨hok, h60⟩).symm⟩
      · rw [if_neg h60] at h; cases h
    · rw [if_neg hok] at h; cases h
theorem stepC_none {s : St} {e : Ev} (h : stepC s e = none) : stepB s e = s := by
  unfold stepC at h
  unfold stepB
  by_cases h7 : e.id = 7
  · rw [if_pos h7] at h ⊢
    obtain ⟨q, seq, T⟩ := s
    cases q with
    | nil => rfl
    | cons x q => cases h
  · rw [if_neg h7] at h ⊢
    by_cases hok : okE ⟨e.t, e.id, 0⟩ = true
    · rw [if_pos hok] at h ⊢
      by_cases h60 : s.q.length < 60
      · rw [if_pos h60] at h; cases h
      · rw [if_neg h60]
    · rw [if_neg hok]
def st0 : St := ⟨[], 0, []⟩
/-- the commands that a session does -/
def logOf : St → List Ev → List Cmd
  | _, [] => []
  | s, e :: l => match stepC s e with
    | none => logOf s l
    | some c => c :: logOf (doC s c) l
theorem logOf_run : ∀ (l : List Ev) (s : St), Goods s (logOf s l) ∧ runC s (logOf s l) = l.foldl stepB s
  | [], s => ⟨trivial, rfl⟩
  | e :: l, s => by
    unfold logOf
    cases h : stepC s e with
    | none =>
      rw [List.foldl_cons, stepC_none h]
      exact logOf_run l s
    | some c =>
      obtain ⟨h1, h2⟩ := stepC_good h
      rw [List.foldl_cons, h2]
      obtain ⟨h3, h4⟩ := logOf_run l (doC s c)
      exact ⟨⟨h1, h3⟩, h4⟩
theorem logOf_snoc : ∀ (l : List Ev) (s : St) (e : Ev), logOf s (l ++ [e]) = logOf s l ++ (match stepC (l.foldl stepB s) e with | none => [] | some c => [c])
  | [], s, e => by
    show logOf s [e] = _
    unfold logOf
    cases h : stepC s e <;> simp [logOf, h]
  | d :: l, s, e => by
    show logOf s (d :: (l ++ [e])) = _
    unfold logOf
    cases h : stepC s d with
    | none =>
      simp only [List.foldl_cons]
      rw [logOf_snoc l s e, stepC_none h]
    | some c =>
      simp only [List.foldl_cons]
      rw [logOf_snoc l (doC s c) e, (stepC_good h).2]
      rfl
theorem logOf_len : ∀ (l : List Ev) (s : St), (logOf s l).length ≤ l.length
  | [], s => by simp [logOf]
  | e :: l, s => by
    unfold logOf
    cases h : stepC s e with
    | none => have := logOf_len l s; simp; omega
    | some c => have := logOf_len l (doC s c); simp; omega
end Go.Proofs.YtfejlkgddnamoaaGreatDoor
end

section
namespace Go.Proofs.YtfejlkgddnamoaaGreatDoor
open Go Go.RowKit SimPlain BookPlain NumPlain SpPlain LinesPlain

theorem logOf_cons (s : St) (e : Ev) (l : List Ev) : logOf s (e :: l) = match stepC s e with
    | none => logOf s l
    | some c => c :: logOf (doC s c) l := rfl
theorem logOf_app : ∀ (a b : List Ev) (s : St), logOf s (a ++ b) = logOf s a ++ logOf (a.foldl stepB s) b
  | [], b, s => rfl
  | e :: a, b, s => by
    show logOf s (e :: (a ++ b)) = _
    rw [logOf_cons, logOf_cons]
    cases h : stepC s e with
    | none =>
      simp only [List.foldl_cons]
      rw [logOf_app a b s, stepC_none h]
    | some c =>
      simp only [List.foldl_cons]
      rw [logOf_app a b (doC s c), (stepC_good h).2]
      rfl
theorem log_take (l : List Ev) {j i : Nat} (h : j ≤ i) : ∃ r, logOf st0 (l.take i) = logOf st0 (l.take j) ++ r := by
  have e : l.take i = l.take j ++ (l.take i).drop j := by
    conv => lhs; rw [← List.take_append_drop j (l.take i)]
    rw [List.take_take, Nat.min_eq_left h]
  rw [e, logOf_app]
  exact ⟨_, rfl⟩
theorem log_le (l : List Ev) {j i : Nat} (h : j ≤ i) : (logOf st0 (l.take j)).length ≤ (logOf st0 (l.take i)).length := by
  obtain ⟨r, e⟩ := log_take l h
  rw [e, List.length_append]; omega
theorem log_eq (l : List Ev) {j i m : Nat} (h : j ≤ i) (hm : (logOf st0 (l.take j)).length = m) : toldB (l.take j) = runC st0 ((logOf st0 (l.take i)).take m) := by
  obtain ⟨r, e⟩ := log_take l h
  rw [e, ← hm, List.take_left]
  exact (logOf_run (l.take j) st0).2.symm
/-- one step more -/
theorem log_step (l : List Ev) {j : Nat} (h : j < l.length) : (logOf st0 (l.take (j + 1))).length = (logOf st0 (l.take j)).length + (if (stepC (toldB (l.take j)) (l.getD j e0)).isSome = true then 1 else 0) := by
  have e : l.take (j + 1) = l.take j ++ [l.getD j e0] := by
    rw [List.take_add_one, List.getD_eq_getElem?_getD, List.getElem?_eq_getElem h]; rfl
  rw [e, logOf_snoc, List.length_append]
  show _ + _ = _
  cases hc : stepC (toldB (l.take j)) (l.getD j e0) with
  | none =>
    have : stepC ((l.take j).foldl stepB st0) (l.getD j e0) = none := hc
    rw [this]; rfl
  | some c =>
    have : stepC ((l.take j).foldl stepB st0) (l.getD j e0) = some c := hc
    rw [this]; rfl
theorem step_pop (s : St) (key : Int) : stepB s ⟨key, 7, 0⟩ = (popS s).1 ∧ ((popS s).2 = 0 ↔ (stepC s ⟨key, 7, 0⟩).isSome = true) := by
  obtain ⟨q, seq, T⟩ := s
  cases q with
  | nil => exact ⟨rfl, by simp [popS, stepC]⟩
  | cons x q => exact ⟨rfl, by simp [popS, stepC]⟩
theorem step_push (s : St) (key id : Int) (h7 : id ≠ 7) : stepB s ⟨key, id, 0⟩ = pushS s ⟨key, id, 0⟩ ∧ (pcode s ⟨key, id, 0⟩ = 0 ↔ (stepC s ⟨key, id, 0⟩).isSome = true) := by
  refine ⟨by unfold stepB pushS; rw [if_neg h7], ?_⟩
  unfold pcode stepC
  rw [if_neg h7]
  by_cases hok : okE ⟨key, id, 0⟩ = true
  · rw [if_pos hok, if_pos hok]
    by_cases h60 : s.q.length < 60
    · rw [if_pos h60, if_pos h60]; simp
    · rw [if_neg h60, if_neg h60]; simp
  · rw [if_neg hok, if_neg hok]; simp
theorem step_ev (s : St) (e : Ev) : stepB s e = stepB s ⟨e.t, e.id, 0⟩ ∧ stepC s e = stepC s ⟨e.t, e.id, 0⟩ := ⟨rfl, rfl⟩
/-- a beginning, opened -/
theorem torn_open (l : List Ev) (k : Nat) (hk : k ≤ (toldB l).T.length) : ∃ m, m ≤ (logOf st0 l).length ∧ ((toldB l).T.take k).count 10 = m ∧
    openP st0 (linesOf ((toldB l).T.take k)) = (runC st0 ((logOf st0 l).take m), m, 0) ∧ (linesOf ((toldB l).T.take k)).length ≤ l.length + 1 := by
  obtain ⟨h1, h2⟩ := logOf_run l st0
  have hT : (toldB l).T = (logOf st0 l).flatMap cmdL := by
    rw [show toldB l = runC st0 (logOf st0 l) from h2.symm, runC_T _ _ h1]; rfl
  rw [hT] at hk ⊢
  obtain ⟨m, p, e, hp, hm⟩ := take_cmds (logOf st0 l) k hk
  refine ⟨m, hm, ?_, ?_, ?_⟩
  · rw [e, List.count_append, count_cmds, List.count_eq_zero.2 hp, List.length_take]; omega
  · rw [e, linesOf_cmds _ _ hp, openP_cmds _ _ _ (goods_take _ _ m h1) hp, List.length_take, Nat.min_eq_left hm]
  · rw [e, linesOf_cmds _ _ hp]
    have h3 := logOf_len l st0
    have h4 : (tail1 p).length ≤ 1 := by unfold tail1; by_cases c : p = [] <;> simp [c]
    simp; omega
theorem count_step (T : List UInt8) (j : Nat) (h : j < T.length) : (T.take (j + 1)).count 10 = (T.take j).count 10 + (if T.getD j 0 = 10 then 1 else 0) := by
  rw [List.take_add_one, List.getElem?_eq_getElem h, List.count_append, List.getD_eq_getElem?_getD, List.getElem?_eq_getElem h]
  simp only [Option.toList_some, Option.getD_some, List.count_cons, List.count_nil, Nat.zero_add, beq_iff_eq]
end Go.Proofs.YtfejlkgddnamoaaGreatDoor
end
