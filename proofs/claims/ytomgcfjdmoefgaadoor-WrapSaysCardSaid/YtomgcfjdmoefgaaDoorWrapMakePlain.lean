/- PLAIN LAW: McNaughton: jobs cut in pieces along one line (no program in sight). -/
import Derived.Test.YtomgcfjdmoefgaaDoorWrapPlain
namespace WrapPlain

/-- where job k begins on the line -/
def startOf (times : List Int) (k : Nat) : Int := (times.take k).sum
theorem startOf_succ (times : List Int) (k : Nat) (h : k < times.length) : startOf times (k + 1) = startOf times k + times.getD k 0 := by
  unfold startOf
  rw [List.take_add_one, List.sum_append, List.getD_eq_getElem?_getD, List.getElem?_eq_getElem h]; simp

/-- one step along the line: of a job a piece, or on to the next job -/
def nxt (times : List Int) (L : Int) (s : Nat × Int × List Pc) : Nat × Int × List Pc :=
  if s.1 < times.length then
    if s.2.1 < startOf times (s.1 + 1) then
      (s.1, s.2.1 + min (startOf times (s.1 + 1) - s.2.1) (L - s.2.1 % L), s.2.2 ++ [⟨s.2.1 / L, s.1, s.2.1 % L, s.2.1 % L + min (startOf times (s.1 + 1) - s.2.1) (L - s.2.1 % L)⟩])
    else (s.1 + 1, s.2.1, s.2.2)
  else s
def iter (times : List Int) (L : Int) : Nat → Nat × Int × List Pc
  | 0 => (0, 0, [])
  | n + 1 => nxt times L (iter times L n)
/-- so far the line was gone -/
def Reach (times : List Int) (L : Int) (j : Nat) (x : Int) (out : List Pc) : Prop := ∃ n, iter times L n = (j, x, out)
theorem Reach.zero (times : List Int) (L : Int) : Reach times L 0 0 [] := ⟨0, rfl⟩
theorem Reach.next {times : List Int} {L : Int} {j : Nat} {x : Int} {out : List Pc} (h : Reach times L j x out) (hj : j < times.length) (hx : startOf times (j + 1) ≤ x) : Reach times L (j + 1) x out := by
  obtain ⟨n, e⟩ := h
  refine ⟨n + 1, ?_⟩
  rw [iter, e]
  unfold nxt
  simp only
  rw [if_pos hj, if_neg (by omega)]
theorem Reach.piece {times : List Int} {L : Int} {j : Nat} {x : Int} {out : List Pc} (h : Reach times L j x out) (hj : j < times.length) (hx : x < startOf times (j + 1)) (k q r : Int) (hk : k = min (startOf times (j + 1) - x) (L - r)) (hq : x / L = q) (hr : x % L = r) :
    Reach times L j (x + k) (out ++ [⟨q, j, r, r + k⟩]) := by
  obtain ⟨n, e⟩ := h
  refine ⟨n + 1, ?_⟩
  rw [iter, e]
  unfold nxt
  simp only
  rw [if_pos hj, if_pos hx, hq, hr, hk]
theorem iter_end {times : List Int} {L : Int} {n : Nat} {x : Int} {out : List Pc} (h : iter times L n = (times.length, x, out)) : ∀ k, iter times L (n + k) = (times.length, x, out)
  | 0 => h
  | k + 1 => by
    rw [← Nat.add_assoc, iter, iter_end h k]
    unfold nxt
    simp only
    rw [if_neg (Nat.lt_irrefl _)]
theorem Reach.unique {times : List Int} {L x y : Int} {out out' : List Pc} (h : Reach times L times.length x out) (h' : Reach times L times.length y out') : out = out' := by
  obtain ⟨n, e⟩ := h
  obtain ⟨m, e'⟩ := h'
  have h1 := iter_end e m
  have h2 := iter_end e' n
  rw [Nat.add_comm] at h2
  rw [h1] at h2
  simp only [Prod.mk.injEq, true_and] at h2
  exact h2.2
theorem at_div {q : Nat} {L r : Int} (h0 : 0 ≤ r) (h1 : r < L) : (q * L + r) / L = q ∧ (q * L + r) % L = r := by
  rw [Int.add_comm, Int.add_mul_ediv_right _ _ (by omega), Int.add_mul_emod_self_right]
  exact ⟨by rw [Int.ediv_eq_zero_of_lt h0 h1]; omega, Int.emod_eq_of_lt h0 h1⟩

/-- what making keeps: job j, of which n is still to give; machine at, at time now -/
structure MkRel (times : List Int) (L : Int) (j : Nat) (n : Int) (at_ : Nat) (now : Int) (out : List Pc) : Prop where
  now0 : 0 ≤ now
  nowL : now ≤ L
  line : at_ * L + now = startOf times (j + 1) - n
  pc : ∀ p ∈ out, 0 ≤ p.m ∧ 0 ≤ p.f ∧ p.f < p.t ∧ p.t ≤ L ∧ p.m * L + p.t ≤ at_ * L + now ∧ ∃ k : Nat, k ≤ j ∧ p.j = k ∧ startOf times k ≤ p.m * L + p.f ∧ p.m * L + p.t ≤ startOf times (k + 1)
  seq : out.Pairwise fun p q => p.m * L + p.t ≤ q.m * L + q.f
  done : ∀ k : Nat, k < times.length → WrapPlain.done k out = if k < j then times.getD k 0 else if k = j then times.getD k 0 - n else 0
  cnt : (out.length : Int) ≤ j + at_ + (if now = L ∧ 0 < n then 1 else 0) + (if n = 0 then 1 else 0)
  endp : n = 0 → 0 < now
  cut : Reach times L j (at_ * L + now) out

theorem done_snoc (k : Nat) (l : List Pc) (p : Pc) : WrapPlain.done k (l ++ [p]) = WrapPlain.done k l + if p.j = k then len p else 0 := by
  induction l with
  | nil => simp [WrapPlain.done]
  | cons q l ih => simp only [List.cons_append, WrapPlain.done, ih]; omega
theorem MkRel.start {times : List Int} {L : Int} (h : 0 < times.length) (hL : 0 ≤ L) (h1 : 1 ≤ times.getD 0 0) : MkRel times L 0 (times.getD 0 0) 0 0 [] :=
  ⟨Int.le_refl _, hL, by rw [startOf_succ _ _ h]; simp [startOf], by simp, by simp, fun k hk => by
    simp only [WrapPlain.done]
    rw [if_neg (by omega)]
    split
    · rename_i e; subst e; omega
    · rfl, by simp; split <;> split <;> omega, fun e => by omega, by
    have e : ((0 : Nat) : Int) * L + 0 = 0 := by simp
    rw [e]; exact Reach.zero _ _⟩
theorem MkRel.next {times : List Int} {L : Int} {j : Nat} {at_ : Nat} {now : Int} {out : List Pc} (h : MkRel times L j 0 at_ now out) (hj : j + 1 < times.length) (h1 : 1 ≤ times.getD (j + 1) 0) : MkRel times L (j + 1) (times.getD (j + 1) 0) at_ now out := by
  refine ⟨h.now0, h.nowL, ?_, fun p hp => ?_, h.seq, fun k hk => ?_, ?_, fun e => by omega, h.cut.next (by omega) (by have := h.line; omega)⟩
  · rw [startOf_succ _ _ hj, h.line]; omega
  · obtain ⟨a, b, c, d, e, k, f, g⟩ := h.pc p hp
    exact ⟨a, b, c, d, e, k, by omega, g⟩
  · rw [h.done k hk]
    rcases Nat.lt_trichotomy k j with c | c | c
    · rw [if_pos c, if_pos (by omega)]
    · subst c; rw [if_neg (Nat.lt_irrefl _), if_pos rfl, if_pos (by omega)]; omega
    · rw [if_neg (by omega), if_neg (by omega), if_neg (by omega)]
      split
      · rename_i e; subst e; omega
      · rfl
  · have := h.cnt
    rw [if_neg (by omega), if_pos rfl] at this
    split <;> split <;> omega
theorem MkRel.wrap {times : List Int} {L : Int} {j : Nat} {n : Int} {at_ : Nat} {now : Int} {out : List Pc} (h : MkRel times L j n at_ now out) (hn : 0 < n) (he : now = L) (hL : 0 < L) : MkRel times L j n (at_ + 1) 0 out := by
  have hl : ((at_ + 1 : Nat) : Int) * L = at_ * L + L := by rw [Int.natCast_succ, Int.add_mul, Int.one_mul]
  have h0 := h.line
  refine ⟨Int.le_refl _, by omega, by rw [hl]; omega, fun p hp => ?_, h.seq, h.done, ?_, fun e => by omega, by
    have hc := h.cut
    have e : ((at_ + 1 : Nat) : Int) * L + 0 = at_ * L + now := by rw [hl]; omega
    rw [e]; exact hc⟩
  · obtain ⟨a, b, c, d, e, k, f, g⟩ := h.pc p hp
    exact ⟨a, b, c, d, by rw [hl]; omega, k, f, g⟩
  · have := h.cnt
    rw [if_neg (show ¬ n = 0 by omega)] at this ⊢
    split at this <;> split <;> omega
theorem MkRel.step {times : List Int} {L : Int} {j : Nat} {n : Int} {at_ : Nat} {now : Int} {out : List Pc} (h : MkRel times L j n at_ now out) (hn : 0 < n) (hlt : now < L) (hj : j < times.length) (hnj : n ≤ times.getD j 0) (k : Int) (hk : k = min n (L - now)) :
    MkRel times L j (n - k) at_ (now + k) (out ++ [⟨at_, j, now, now + k⟩]) := by
  have h0 := h.line
  have h1 := h.now0
  have hs := startOf_succ times j hj
  refine ⟨by omega, by omega, by omega, fun p hp => ?_, ?_, fun c hc => ?_, ?_, fun _ => by omega, by
    have hd := at_div (q := at_) h1 hlt
    have hc := h.cut.piece hj (by omega) k at_ now (by omega) hd.1 hd.2
    rw [← Int.add_assoc]; exact hc⟩
  · rcases List.mem_append.1 hp with hp | hp
    · obtain ⟨a, b, c, d, e, q, f, g⟩ := h.pc p hp
      exact ⟨a, b, c, d, by omega, q, f, g⟩
    · rw [List.mem_singleton] at hp; subst hp
      simp only
      exact ⟨by omega, h1, by omega, by omega, by omega, j, Nat.le_refl _, rfl, by omega, by omega⟩
  · rw [List.pairwise_append]
    refine ⟨h.seq, by simp, fun p hp q hq => ?_⟩
    rw [List.mem_singleton] at hq; subst hq
    obtain ⟨a, b, c, d, e, _⟩ := h.pc p hp
    simp only; omega
  · rw [done_snoc, h.done c hc]
    simp only [len]
    rcases Nat.lt_trichotomy c j with e | e | e
    · rw [if_pos e, if_neg (by omega), if_pos e]; omega
    · subst e; rw [if_neg (Nat.lt_irrefl _), if_pos rfl, if_pos rfl, if_neg (Nat.lt_irrefl _), if_pos rfl]; omega
    · rw [if_neg (by omega), if_neg (by omega), if_neg (by omega), if_neg (by omega), if_neg (by omega)]; rfl
  · have := h.cnt
    rw [if_neg (by omega), if_neg (by omega)] at this
    rw [List.length_append, List.length_singleton]
    split <;> split <;> omega
theorem MkRel.count {times : List Int} {L : Int} {m : Nat} {at_ : Nat} {now : Int} {out : List Pc} {j : Nat} (h : MkRel times L j 0 at_ now out) (hj : j + 1 = times.length) (hm : times.sum ≤ m * L) (hL0 : 0 < L) : (out.length : Int) ≤ times.length + m - 1 := by
  have hend : startOf times (j + 1) = times.sum := by unfold startOf; rw [hj, List.take_length]
  have hline := h.line
  have he := h.endp rfl
  have h1 : (at_ : Int) * L < m * L := by omega
  have := Int.lt_of_mul_lt_mul_right h1 (by omega)
  have hc := h.cnt
  rw [if_neg (by omega), if_pos rfl] at hc
  omega
theorem MkRel.all {times : List Int} {L : Int} {at_ : Nat} {now : Int} {out : List Pc} {j : Nat} (h : MkRel times L j 0 at_ now out) (hj : j + 1 = times.length) : Reach times L times.length (at_ * L + now) out := by
  rw [← hj]
  exact h.cut.next (by omega) (by have := h.line; omega)
/-- what is laid in the end is a plan -/
theorem MkRel.plan {times : List Int} {L : Int} {m : Nat} {at_ : Nat} {now : Int} {out : List Pc} {j : Nat} (h : MkRel times L j 0 at_ now out) (hj : j + 1 = times.length) (hL : ∀ t ∈ times, t ≤ L) (hm : times.sum ≤ m * L) (hL0 : 0 < L) :
    Plan times m out L := by
  have hT : ∀ k, k < times.length → times.getD k 0 ≤ L := fun k hk => by
    rw [List.getD_eq_getElem?_getD, List.getElem?_eq_getElem hk]; exact hL _ (List.getElem_mem _)
  have hend : startOf times (j + 1) = times.sum := by unfold startOf; rw [hj, List.take_length]
  have hline := h.line
  refine ⟨fun p hp => ?_, ?_, fun k hk => ?_⟩
  · obtain ⟨a, b, c, d, e, k, f, g, _⟩ := h.pc p hp
    have : p.m * L < m * L := by omega
    have := Int.lt_of_mul_lt_mul_right this (by omega)
    exact ⟨a, by omega, by omega, by omega, b, c, d⟩
  · refine List.Pairwise.imp_of_mem ?_ h.seq
    rintro p q hp hq hpq ⟨hc, m1, m2⟩
    obtain ⟨a, b, c, d, e, k, f, g, i1, i2⟩ := h.pc p hp
    obtain ⟨a', b', c', d', e', k', f', g', i1', i2'⟩ := h.pc q hq
    rcases Int.lt_trichotomy p.m q.m with hh | hh | hh
    · rcases hc with hc | hc
      · omega
      · have hkk : k = k' := by omega
        subst hkk
        have h1 := startOf_succ times k (by omega)
        have h2 := hT k (by omega)
        have h3 : (p.m + 1) * L ≤ q.m * L := Int.mul_le_mul_of_nonneg_right (by omega) (by omega)
        rw [Int.add_mul, Int.one_mul] at h3
        omega
    · rw [hh] at hpq; omega
    · have h3 : (q.m + 1) * L ≤ p.m * L := Int.mul_le_mul_of_nonneg_right (by omega) (by omega)
      rw [Int.add_mul, Int.one_mul] at h3
      omega
  · rw [h.done k hk]
    rcases Nat.lt_or_ge k j with c | c
    · rw [if_pos c]
    · rw [if_neg (by omega), if_pos (by omega)]; omega
end WrapPlain
