/- PLAIN LAW: one machine; as many machines as jobs (no program in sight). -/
import Derived.Test.YteidoknpnfbonaaShareLaw
namespace ShareLaw
open SharePlain PackPlain

theorem one_law {times on : List Int} (h : OnOk times 1 on) (hpos : ∀ t ∈ times, 0 ≤ t) : longOf times on 1 = times.sum := by
  have a := sum_le h
  have b := (long_sum (times := times) (on := on) (m := 1) (Nat.le_refl _) hpos).2
  omega

theorem load_diag (times on : List Int) (c : Nat) : ∀ k : Nat, (∀ j : Nat, j < k → on.getD j 0 = j) → loadL times on c (List.range k) = if c < k then times.getD c 0 else 0 := by
  intro k
  induction k with
  | zero => intro _; rfl
  | succ k ih =>
    intro h
    rw [List.range_succ, loadL_snoc, ih fun j hj => h j (by omega), h k (by omega)]
    by_cases e : k = c
    · subst e
      rw [if_neg (by omega), if_pos rfl, if_pos (by omega)]; omega
    · rw [if_neg (show ¬ ((k : Int) = c) by omega), Int.add_zero]
      by_cases h' : c < k
      · rw [if_pos h', if_pos (by omega)]
      · rw [if_neg h', if_neg (by omega)]

theorem own_is (times : List Int) (hpos : ∀ t ∈ times, 1 ≤ t) (h1 : 1 ≤ times.length) : ∀ k : Nat, k < times.length → (giveL times (List.range times.length) times.length).getD k 0 = k := by
  intro k
  induction k using Nat.strongRecOn with
  | ind k ih =>
    intro hk
    have g := give_is times times.length h1 (List.range times.length) List.nodup_range (fun i hi => List.mem_range.1 hi) k (by simpa using hk)
    rw [List.getElem_range, List.take_range, Nat.min_eq_left (by omega)] at g
    have hd := fun c => load_diag times (giveL times (List.range times.length) times.length) c k (fun j hj => ih j hj (by omega))
    generalize giveL times (List.range times.length) times.length = ON at g hd
    obtain ⟨⟨b1, b2⟩, l, f⟩ := g
    obtain ⟨q, hq⟩ : ∃ q : Nat, ON.getD k 0 = q := ⟨(ON.getD k 0).toNat, by omega⟩
    rw [hq] at b2 l f ⊢
    have lk := l k hk
    rw [hd, hd, if_neg (Nat.lt_irrefl k)] at lk
    rcases Nat.lt_trichotomy q k with h | h | h
    · rw [if_pos h] at lk
      have := hpos _ (List.getElem_mem (l := times) (n := q) (by omega))
      rw [List.getD_eq_getElem?_getD, List.getElem?_eq_getElem (by omega)] at lk
      simp only [Option.getD_some] at lk
      omega
    · rw [h]
    · have := f k (by omega)
      rw [hd, hd, if_neg (by omega), if_neg (by omega)] at this
      omega
theorem own_law (times : List Int) (hpos : ∀ t ∈ times, 1 ≤ t) (h1 : 1 ≤ times.length) : longOf times (giveL times (List.range times.length) times.length) times.length = times.foldl max 0 := by
  have ok := give_ok times times.length h1 (List.range times.length) (List.Perm.refl _)
  have own := own_is times hpos h1
  have h0 : ∀ t ∈ times, 0 ≤ t := fun t ht => by have := hpos t ht; omega
  generalize giveL times (List.range times.length) times.length = ON at ok own
  have fm := foldl_max times 0
  have b := (long_sum (times := times) (on := ON) h1 h0).1
  have up : longOf times ON times.length ≤ times.foldl max 0 := long_le times ON times.length h1 _ fun c hc => by
    unfold loadOf
    rw [load_diag times ON c times.length own, if_pos hc, List.getD_eq_getElem?_getD, List.getElem?_eq_getElem hc]
    exact fm.2.1 _ (List.getElem_mem _)
  have low : times.foldl max 0 ≤ longOf times ON times.length := by
    rcases fm.2.2 with e | e
    · omega
    · obtain ⟨i, hi, e'⟩ := List.mem_iff_getElem.1 e
      have := job_le ok h0 i hi
      rw [List.getD_eq_getElem?_getD, List.getElem?_eq_getElem hi] at this
      rw [← e']; exact this
  omega
end ShareLaw
