/- PLAIN LAW: what share.List, share.Longest and share.Load compute, and what follows (no program in sight). -/
import Derived.Test.YtomgcfjdmoefgaaDoorSharePlain
import Derived.Test.YtomgcfjdmoefgaaDoorPackPlain
namespace ShareLaw
open SharePlain PackPlain

/-- the jobs of l with their machines -/
def jobs (times on : List Int) (l : List Nat) : List (Int × Nat) := l.map fun i => (times.getD i 0, (on.getD i 0).toNat)
theorem msum_jobs (times on : List Int) (c : Nat) (l : List Nat) (h : ∀ i ∈ l, 0 ≤ on.getD i 0) : msum c (jobs times on l) = loadL times on c l := by
  induction l with
  | nil => rfl
  | cons i l ih =>
    have hi := h i (List.mem_cons_self ..)
    rw [loadL_cons, ← ih fun j hj => h j (List.mem_cons_of_mem _ hj)]
    show (if (on.getD i 0).toNat = c then times.getD i 0 else 0) + msum c (jobs times on l) = _
    by_cases e : on.getD i 0 = (c : Int)
    · rw [if_pos e, if_pos (by omega)]
    · rw [if_neg e, if_neg (by omega)]
theorem tsum_jobs (times on : List Int) (l : List Nat) : tsum (jobs times on l) = (l.map fun i => times.getD i 0).sum := by
  induction l with
  | nil => rfl
  | cons i l ih =>
    show times.getD i 0 + tsum (jobs times on l) = _
    rw [ih, List.map_cons, List.sum_cons]
theorem jobs_lt (times on : List Int) (m : Nat) (l : List Nat) (h : ∀ i ∈ l, 0 ≤ on.getD i 0 ∧ on.getD i 0 < m) : ∀ x ∈ jobs times on l, x.2 < m := by
  intro x hx
  obtain ⟨i, hi, rfl⟩ := List.mem_map.1 hx
  have := h i hi
  show (on.getD i 0).toNat < m
  omega

/-- all jobs lie on some machine, each once -/
structure OnOk (times : List Int) (m : Nat) (on : List Int) : Prop where
  len : on.length = times.length
  box : ∀ i, i < times.length → 0 ≤ on.getD i 0 ∧ on.getD i 0 < m
/-- what machine c has to do -/
def loadOf (times on : List Int) (c : Nat) : Int := loadL times on c (List.range times.length)
def loads (times on : List Int) (m : Nat) : List Int := (List.range m).map fun c => loadOf times on c
def maxL : List Int → Int
  | [] => 0
  | [x] => x
  | x :: y :: l => max x (maxL (y :: l))
theorem maxL_ge : ∀ (l : List Int), ∀ x ∈ l, x ≤ maxL l
  | [], _, h => by simp at h
  | [x], y, h => by simp at h; subst h; simp [maxL]
  | x :: y :: l, z, h => by
    unfold maxL
    rcases List.mem_cons.1 h with e | e
    · omega
    · have := maxL_ge (y :: l) z e; omega
theorem maxL_mem : ∀ (l : List Int), l ≠ [] → maxL l ∈ l
  | [], h => absurd rfl h
  | [x], _ => by simp [maxL]
  | x :: y :: l, _ => by
    unfold maxL
    have := maxL_mem (y :: l) (by simp)
    rcases Int.le_total x (maxL (y :: l)) with h | h
    · rw [Int.max_eq_right h]; exact List.mem_cons_of_mem _ this
    · rw [Int.max_eq_left h]; exact List.mem_cons_self ..
theorem maxL_le (l : List Int) (h0 : l ≠ []) (K : Int) (h : ∀ x ∈ l, x ≤ K) : maxL l ≤ K := h _ (maxL_mem l h0)
def longOf (times on : List Int) (m : Nat) : Int := maxL (loads times on m)
theorem load_le (times on : List Int) (m c : Nat) (h : c < m) : loadOf times on c ≤ longOf times on m :=
  maxL_ge _ _ (List.mem_map.2 ⟨c, List.mem_range.2 h, rfl⟩)
theorem long_is (times on : List Int) (m : Nat) (h : 1 ≤ m) : ∃ c, c < m ∧ longOf times on m = loadOf times on c := by
  have := maxL_mem (loads times on m) (by intro e; have := congrArg List.length e; simp [loads] at this; omega)
  obtain ⟨c, hc, e⟩ := List.mem_map.1 this
  exact ⟨c, List.mem_range.1 hc, e.symm⟩
theorem long_le (times on : List Int) (m : Nat) (h : 1 ≤ m) (K : Int) (hK : ∀ c, c < m → loadOf times on c ≤ K) : longOf times on m ≤ K := by
  obtain ⟨c, hc, e⟩ := long_is times on m h
  rw [e]; exact hK c hc
theorem range_sum (times : List Int) : ((List.range times.length).map fun i => times.getD i 0).sum = times.sum := sum_getD times
theorem loadOf_msum {times on : List Int} {m : Nat} (h : OnOk times m on) (c : Nat) : msum c (jobs times on (List.range times.length)) = loadOf times on c :=
  msum_jobs _ _ _ _ fun i hi => (h.box i (List.mem_range.1 hi)).1
theorem sum_le {times on : List Int} {m : Nat} (h : OnOk times m on) : times.sum ≤ m * longOf times on m := by
  have a := upto_msum m (jobs times on (List.range times.length)) (jobs_lt _ _ _ _ fun i hi => h.box i (List.mem_range.1 hi))
  rw [tsum_jobs, range_sum] at a
  have b := upto_le m (fun i => msum i (jobs times on (List.range times.length))) (fun _ => longOf times on m) (fun i hi => by
    show msum i _ ≤ _
    rw [loadOf_msum h]; exact load_le _ _ _ _ hi)
  rw [upto_const] at b
  omega
theorem job_le {times on : List Int} {m : Nat} (h : OnOk times m on) (hpos : ∀ t ∈ times, 0 ≤ t) (i : Nat) (hi : i < times.length) : times.getD i 0 ≤ longOf times on m := by
  have hb := h.box i hi
  have a := msum_ge (on.getD i 0).toNat (jobs times on (List.range times.length)) (fun x hx => by
    obtain ⟨j, hj, rfl⟩ := List.mem_map.1 hx
    show 0 ≤ times.getD j 0
    rw [List.getD_eq_getElem?_getD, List.getElem?_eq_getElem (List.mem_range.1 hj)]
    exact hpos _ (List.getElem_mem _)) (times.getD i 0) (List.mem_map.2 ⟨i, List.mem_range.2 hi, rfl⟩)
  rw [loadOf_msum h] at a
  have := load_le times on m (on.getD i 0).toNat (by omega)
  omega
theorem load_nonneg {times on : List Int} (hpos : ∀ t ∈ times, 0 ≤ t) (c : Nat) : 0 ≤ loadOf times on c ∧ loadOf times on c ≤ times.sum := by
  have key : ∀ l : List Nat, (∀ i ∈ l, i < times.length) → 0 ≤ loadL times on c l ∧ loadL times on c l ≤ (l.map fun i => times.getD i 0).sum := by
    intro l
    induction l with
    | nil => intro _; exact ⟨Int.le_refl _, Int.le_refl _⟩
    | cons i l ih =>
      intro h
      have hi := h i (List.mem_cons_self ..)
      have ih := ih fun j hj => h j (List.mem_cons_of_mem _ hj)
      have hp := hpos _ (List.getElem_mem (l := times) (n := i) hi)
      have e : times.getD i 0 = times[i] := by rw [List.getD_eq_getElem?_getD, List.getElem?_eq_getElem hi]; rfl
      rw [loadL_cons, List.map_cons, List.sum_cons, e]
      split <;> omega
  have := key (List.range times.length) fun i hi => List.mem_range.1 hi
  rw [range_sum] at this
  exact this
theorem long_sum {times on : List Int} {m : Nat} (hm : 1 ≤ m) (hpos : ∀ t ∈ times, 0 ≤ t) : 0 ≤ longOf times on m ∧ longOf times on m ≤ times.sum := by
  obtain ⟨c, _, e⟩ := long_is times on m hm
  rw [e]; exact load_nonneg hpos c

/-! ### one by one to who has least to do -/
/-- the first place of the least -/
def leastIdx : List Int → Nat
  | [] => 0
  | [_] => 0
  | x :: y :: l => if x ≤ (y :: l).getD (leastIdx (y :: l)) 0 then 0 else leastIdx (y :: l) + 1
theorem leastIdx_lt : ∀ l : List Int, l ≠ [] → leastIdx l < l.length
  | [], h => absurd rfl h
  | [_], _ => by simp [leastIdx]
  | x :: y :: l, _ => by
    unfold leastIdx
    have := leastIdx_lt (y :: l) (by simp)
    split
    · simp
    · simp at this ⊢; omega
theorem leastIdx_le : ∀ (l : List Int) (j : Nat), j < l.length → l.getD (leastIdx l) 0 ≤ l.getD j 0
  | [], j, h => by simp at h
  | [x], j, h => by
    have : j = 0 := by simp at h; omega
    subst this; simp [leastIdx]
  | x :: y :: l, j, h => by
    have ih := leastIdx_le (y :: l)
    unfold leastIdx
    split
    · rename_i hx
      cases j with
      | zero => simp
      | succ j =>
        have := ih j (by simpa using h)
        rw [List.getD_cons_zero, List.getD_cons_succ]; omega
    · rename_i hx
      cases j with
      | zero => rw [List.getD_cons_zero, List.getD_cons_succ]; omega
      | succ j => rw [List.getD_cons_succ, List.getD_cons_succ]; exact ih j (by simpa using h)
theorem leastIdx_first : ∀ (l : List Int) (j : Nat), j < leastIdx l → l.getD (leastIdx l) 0 < l.getD j 0
  | [], j, h => by simp [leastIdx] at h
  | [x], j, h => by simp [leastIdx] at h
  | x :: y :: l, j, h => by
    have ih := leastIdx_first (y :: l)
    unfold leastIdx at h ⊢
    split at h
    · omega
    · rename_i hx
      rw [if_neg hx, List.getD_cons_succ]
      cases j with
      | zero => rw [List.getD_cons_zero]; omega
      | succ j => rw [List.getD_cons_succ]; exact ih j (by omega)

/-- give: jobs in an order, each to who has least to do -/
def giveS (times : List Int) : List Nat → List Int → List Int → List Int
  | [], _, out => out
  | i :: ord, load, out => giveS times ord (load.set (leastIdx load) (load.getD (leastIdx load) 0 + times.getD i 0)) (out.set i (leastIdx load : Nat))
def giveL (times : List Int) (ord : List Nat) (m : Nat) : List Int := giveS times ord (List.replicate m 0) (List.replicate times.length 0)
theorem giveS_length (times : List Int) : ∀ (ord : List Nat) (load out : List Int), (giveS times ord load out).length = out.length
  | [], _, _ => rfl
  | i :: ord, load, out => by unfold giveS; rw [giveS_length]; simp
theorem giveS_keep (times : List Int) (j : Nat) : ∀ (ord : List Nat) (load out : List Int), j ∉ ord → (giveS times ord load out).getD j 0 = out.getD j 0
  | [], _, _, _ => rfl
  | i :: ord, load, out, h => by
    unfold giveS
    rw [giveS_keep times j ord _ _ (fun h' => h (List.mem_cons_of_mem _ h'))]
    have : i ≠ j := fun e => h (e ▸ List.mem_cons_self ..)
    simp [List.getD_eq_getElem?_getD, List.getElem?_set, this]


structure Given (times : List Int) (m : Nat) (ON : List Int) (pre : List Nat) (i : Nat) : Prop where
  box : 0 ≤ ON.getD i 0 ∧ ON.getD i 0 < m
  least : ∀ c : Nat, c < m → loadL times ON (ON.getD i 0) pre ≤ loadL times ON c pre
  first : ∀ c : Nat, (c : Int) < ON.getD i 0 → loadL times ON (ON.getD i 0) pre < loadL times ON c pre
theorem getD_set_eq (l : List Int) (k : Nat) (v : Int) (h : k < l.length) : (l.set k v).getD k 0 = v := by simp [List.getD_eq_getElem?_getD, h]
theorem getD_set_ne (l : List Int) (k j : Nat) (v : Int) (h : k ≠ j) : (l.set k v).getD j 0 = l.getD j 0 := by simp [List.getD_eq_getElem?_getD, List.getElem?_set, h]
theorem give_aux (times : List Int) (m : Nat) (hm : 1 ≤ m) (ON : List Int) (i : Nat) (p2 : List Nat) : ∀ (p1 pre : List Nat) (load out : List Int),
    load.length = m → out.length = times.length → (∀ c : Nat, c < m → load.getD c 0 = loadL times ON c pre) → giveS times (p1 ++ i :: p2) load out = ON → (p1 ++ i :: p2).Nodup → (∀ j ∈ p1 ++ i :: p2, j < times.length) →
    Given times m ON (pre ++ p1) i
  | [], pre, load, out, hl, ho, hc, hg, hn, hlt => by
    rw [List.nil_append] at hg hn hlt
    rw [List.append_nil]
    have hk := leastIdx_lt load (by intro e; rw [e] at hl; simp at hl; omega)
    have hle := leastIdx_le load
    have hfi := leastIdx_first load
    have e : ON.getD i 0 = (leastIdx load : Nat) := by
      rw [← hg]; unfold giveS
      rw [giveS_keep _ _ _ _ _ (List.nodup_cons.1 hn).1, getD_set_eq _ _ _ (by rw [ho]; exact hlt i (List.mem_cons_self ..))]
    rw [hl] at hk
    refine ⟨by omega, fun c hcm => ?_, fun c hcm => ?_⟩
    · rw [e, ← hc _ hk, ← hc c hcm]; exact hle c (by omega)
    · rw [e] at hcm ⊢
      rw [← hc _ hk, ← hc c (by omega)]; exact hfi c (by omega)
  | j :: p1, pre, load, out, hl, ho, hc, hg, hn, hlt => by
    rw [List.cons_append] at hg hn hlt
    have hk := leastIdx_lt load (by intro e; rw [e] at hl; simp at hl; omega)
    rw [hl] at hk
    have hj := hlt j (List.mem_cons_self ..)
    have e : ON.getD j 0 = (leastIdx load : Nat) := by
      rw [← hg]; unfold giveS
      rw [giveS_keep _ _ _ _ _ (List.nodup_cons.1 hn).1, getD_set_eq _ _ _ (by rw [ho]; exact hj)]
    rw [show pre ++ j :: p1 = (pre ++ [j]) ++ p1 by simp]
    refine give_aux times m hm ON i p2 p1 (pre ++ [j]) _ _ (by simpa using hl) (by simpa using ho) (fun c hcm => ?_) hg (List.nodup_cons.1 hn).2 (fun x hx => hlt x (List.mem_cons_of_mem _ hx))
    rw [loadL_snoc, e]
    by_cases ec : leastIdx load = c
    · rw [if_pos (by omega), ← ec, getD_set_eq _ _ _ (by rw [hl]; exact hk), hc _ hk]
    · rw [if_neg (by omega), getD_set_ne _ _ _ _ ec, hc c hcm, Int.add_zero]
theorem give_is (times : List Int) (m : Nat) (hm : 1 ≤ m) (ord : List Nat) (hn : ord.Nodup) (hlt : ∀ i ∈ ord, i < times.length) (k : Nat) (hk : k < ord.length) :
    Given times m (giveL times ord m) (ord.take k) (ord[k]) := by
  have e : ord = ord.take k ++ ord[k] :: ord.drop (k + 1) := by rw [← List.drop_eq_getElem_cons hk, List.take_append_drop]
  have a := give_aux times m hm (giveL times ord m) (ord[k]) (ord.drop (k + 1)) (ord.take k) [] (List.replicate m 0) (List.replicate times.length 0)
    (by simp) (by simp) (fun c hc => by simp [List.getD_eq_getElem?_getD, hc, loadL]) (by rw [← e]; rfl) (by rw [← e]; exact hn) (by rw [← e]; exact hlt)
  rwa [List.nil_append] at a
theorem give_ok (times : List Int) (m : Nat) (hm : 1 ≤ m) (ord : List Nat) (hp : ord.Perm (List.range times.length)) : OnOk times m (giveL times ord m) := by
  refine ⟨by unfold giveL; rw [giveS_length]; simp, fun i hi => ?_⟩
  obtain ⟨k, hk, rfl⟩ := List.mem_iff_getElem.1 (hp.mem_iff.2 (List.mem_range.2 hi))
  exact (give_is times m hm ord (hp.nodup_iff.2 List.nodup_range) (fun j hj => List.mem_range.1 (hp.mem_iff.1 hj)) k hk).box

def tot (times : List Int) (l : List Nat) : Int := (l.map fun i => times.getD i 0).sum
theorem tot_snoc (times : List Int) (l : List Nat) (i : Nat) : tot times (l ++ [i]) = tot times l + times.getD i 0 := by simp [tot]
/-- who has least to do has at most the fair share -/
theorem least_fair (times ON : List Int) (m : Nat) (pre : List Nat) (i : Nat) (hp : ∀ j ∈ pre, 0 ≤ ON.getD j 0 ∧ ON.getD j 0 < m) (g : Given times m ON pre i) :
    m * loadL times ON (ON.getD i 0) pre ≤ tot times pre := by
  have h := graham_step m (jobs times ON pre) (jobs_lt _ _ _ _ hp) (ON.getD i 0).toNat (fun c hc => by
    rw [msum_jobs _ _ _ _ fun j hj => (hp j hj).1, msum_jobs _ _ _ _ fun j hj => (hp j hj).1, Int.toNat_of_nonneg g.box.1]
    exact g.least c hc)
  rw [msum_jobs _ _ _ _ fun j hj => (hp j hj).1, Int.toNat_of_nonneg g.box.1, tsum_jobs] at h
  exact h

/-- GRAHAM: whatever the order, no machine has more than its share and (m - 1)/m of the longest job -/
theorem graham (times : List Int) (m : Nat) (hm : 1 ≤ m) (ord : List Nat) (hp : ord.Perm (List.range times.length)) (P : Int) (hP : ∀ t ∈ times, 0 ≤ t ∧ t ≤ P) (hP0 : 0 ≤ P) (c : Nat) :
    m * loadOf times (giveL times ord m) c ≤ times.sum + (m - 1) * P := by
  have hn : ord.Nodup := hp.nodup_iff.2 List.nodup_range
  have hlt : ∀ i ∈ ord, i < times.length := fun j hj => List.mem_range.1 (hp.mem_iff.1 hj)
  have ok := give_ok times m hm ord hp
  have hm1 : (0 : Int) ≤ (m - 1) * P := Int.mul_nonneg (by omega) hP0
  have key : ∀ k, k ≤ ord.length → m * loadL times (giveL times ord m) c (ord.take k) ≤ tot times (ord.take k) + (m - 1) * P := by
    intro k
    induction k with
    | zero => intro _; simp [loadL, tot]; exact hm1
    | succ k ih =>
      intro hk
      have ih := ih (by omega)
      have g := give_is times m hm ord hn hlt k (by omega)
      have hi := hlt _ (List.getElem_mem (l := ord) (n := k) (by omega))
      have hl := least_fair times _ m (ord.take k) (ord[k]) (fun j hj => ok.box j (hlt j (List.mem_of_mem_take hj))) g
      have ht : 0 ≤ times.getD (ord[k]) 0 ∧ times.getD (ord[k]) 0 ≤ P := by
        rw [List.getD_eq_getElem?_getD, List.getElem?_eq_getElem hi]; exact hP _ (List.getElem_mem _)
      rw [List.take_succ_eq_append_getElem (by omega), loadL_snoc, tot_snoc]
      generalize times.getD (ord[k]) 0 = t at ht
      split
      · rename_i e
        rw [e] at hl
        rw [Int.mul_add]
        have : (m - 1) * t ≤ (m - 1) * P := Int.mul_le_mul_of_nonneg_left ht.2 (by omega)
        have e2 : (m : Int) * t = (m - 1) * t + t := by rw [Int.sub_mul, Int.one_mul]; omega
        omega
      · rw [Int.add_zero]; omega
  have a := key ord.length (Nat.le_refl _)
  rw [List.take_length] at a
  unfold loadOf tot at *
  rw [loadL_perm _ _ _ hp, perm_sum (hp.map _), range_sum] at a
  exact a
/-- GRAHAM's law as it is told -/
theorem graham_law (times : List Int) (m : Nat) (hm : 1 ≤ m) (ord : List Nat) (hp : ord.Perm (List.range times.length)) (hpos : ∀ t ∈ times, 0 ≤ t) (on : List Int) (h : OnOk times m on) :
    m * longOf times (giveL times ord m) m ≤ (2 * m - 1) * longOf times on m := by
  have hK := long_sum (times := times) (on := on) hm hpos
  have hs := sum_le h
  obtain ⟨c, hc, e⟩ := long_is times (giveL times ord m) m hm
  have a := graham times m hm ord hp (longOf times on m) (fun t ht => ⟨hpos t ht, by
    obtain ⟨i, hi, rfl⟩ := List.mem_iff_getElem.1 ht
    have := job_le h hpos i hi
    rwa [List.getD_eq_getElem?_getD, List.getElem?_eq_getElem hi] at this⟩) hK.1 c
  rw [e]
  have e1 : (2 * (m : Int) - 1) * longOf times on m = m * longOf times on m + (m - 1) * longOf times on m := by rw [← Int.add_mul]; congr 1; omega
  omega

/-- THE LONGEST FIRST -/
theorem lpt_law (times : List Int) (m : Nat) (hm : 1 ≤ m) (ord : List Nat) (hp : ord.Perm (List.range times.length)) (hpos : ∀ t ∈ times, 0 ≤ t)
    (hfall : ∀ a b (ha : a < ord.length) (hb : b < ord.length), a < b → times.getD ord[b] 0 ≤ times.getD ord[a] 0) (on : List Int) (h : OnOk times m on) :
    3 * m * longOf times (giveL times ord m) m ≤ (4 * m - 1) * longOf times on m := by
  have hn : ord.Nodup := hp.nodup_iff.2 List.nodup_range
  have hlt : ∀ i ∈ ord, i < times.length := fun j hj => List.mem_range.1 (hp.mem_iff.1 hj)
  have ok := give_ok times m hm ord hp
  have hK := (long_sum (times := times) (on := on) hm hpos).1
  have hs := sum_le h
  have hll := load_le times on m
  have hjob := job_le h hpos
  generalize longOf times on m = K at hK hs hll hjob
  obtain ⟨c, hc, e⟩ := long_is times (giveL times ord m) m hm
  rw [e]
  clear e
  have hmK : (0 : Int) ≤ (m - 1) * K := Int.mul_nonneg (by omega) hK
  have e4 : (4 * (m : Int) - 1) * K = 3 * (m * K) + (m - 1) * K := by rw [← Int.mul_assoc, ← Int.add_mul]; congr 1; omega
  have htot : ∀ k, k ≤ ord.length → tot times (ord.take k) ≤ times.sum := by
    have hend : tot times (ord.take ord.length) = times.sum := by rw [List.take_length]; unfold tot; rw [perm_sum (hp.map _), range_sum]
    have step : ∀ d k, k + d = ord.length → tot times (ord.take k) ≤ times.sum := by
      intro d
      induction d with
      | zero => intro k hk; have : k = ord.length := by omega
                subst this; omega
      | succ d ih =>
        intro k hk
        have a := ih (k + 1) (by omega)
        rw [List.take_succ_eq_append_getElem (by omega), tot_snoc] at a
        have hi := hlt _ (List.getElem_mem (l := ord) (n := k) (by omega))
        have : 0 ≤ times.getD (ord[k]) 0 := by rw [List.getD_eq_getElem?_getD, List.getElem?_eq_getElem hi]; exact hpos _ (List.getElem_mem _)
        omega
    intro k hk
    exact step (ord.length - k) k (by omega)
  have key : ∀ k, k ≤ ord.length → 3 * m * loadL times (giveL times ord m) c (ord.take k) ≤ (4 * m - 1) * K := by
    intro k
    induction k with
    | zero => intro _; simp [loadL]; rw [e4]; have := Int.mul_nonneg (show (0 : Int) ≤ m by omega) hK; omega
    | succ k ih =>
      intro hk
      have ih := ih (by omega)
      have g := give_is times m hm ord hn hlt k (by omega)
      have hi := hlt _ (List.getElem_mem (l := ord) (n := k) (by omega))
      have hbx : ∀ j ∈ ord.take k, 0 ≤ (giveL times ord m).getD j 0 ∧ (giveL times ord m).getD j 0 < m := fun j hj => ok.box j (hlt j (List.mem_of_mem_take hj))
      have hl := least_fair times _ m (ord.take k) (ord[k]) hbx g
      have ht0 : 0 ≤ times.getD (ord[k]) 0 := by
        rw [List.getD_eq_getElem?_getD, List.getElem?_eq_getElem hi]; exact hpos _ (List.getElem_mem _)
      have htk := htot (k + 1) hk
      have hjk := hjob _ hi
      rw [List.take_succ_eq_append_getElem (by omega), tot_snoc] at htk
      rw [List.take_succ_eq_append_getElem (by omega), loadL_snoc]
      by_cases ec : (giveL times ord m).getD ord[k] 0 = c
      · rw [if_pos ec]
        rcases Int.lt_or_le K (3 * times.getD ord[k] 0) with h3 | h3
        · have a := lpt_fits m (jobs times (giveL times ord m) (ord.take k)) (jobs_lt _ _ _ _ hbx) (times.getD ord[k] 0) K c h3
            (fun i hi => by
              rw [msum_jobs _ _ _ _ fun j hj => (hbx j hj).1, msum_jobs _ _ _ _ fun j hj => (hbx j hj).1, ← ec]
              exact g.least i hi)
            (jobs times on (ord.take (k + 1))) (jobs_lt _ _ _ _ fun j hj => h.box j (hlt j (List.mem_of_mem_take hj)))
            (by
              rw [List.take_succ_eq_append_getElem (by omega)]
              unfold jobs
              simp only [List.map_append, List.map_map, List.map_cons, List.map_nil]
              exact List.Perm.refl _)
            (fun x hx => by
              obtain ⟨j, hj, rfl⟩ := List.mem_map.1 hx
              obtain ⟨q, hq, rfl⟩ := List.mem_iff_getElem.1 hj
              rw [List.length_take] at hq
              rw [List.getElem_take]
              exact hfall q k (by omega) (by omega) (by omega))
            (fun i hi => by
              rw [msum_jobs _ _ _ _ fun j hj => (h.box j (hlt j (List.mem_of_mem_take hj))).1]
              refine Int.le_trans ?_ (hll i hi)
              unfold loadOf
              rw [← loadL_perm times on i hp]
              have mono : ∀ l l' : List Nat, (∀ j ∈ l', j < times.length) → loadL times on i l ≤ loadL times on i (l ++ l') := by
                intro l l' hl'
                unfold loadL
                rw [List.map_append, List.sum_append]
                have : 0 ≤ (l'.map fun j => if on.getD j 0 = (i : Int) then times.getD j 0 else 0).sum := by
                  induction l' with
                  | nil => exact Int.le_refl _
                  | cons j l' ih =>
                    have hj := hl' j (List.mem_cons_self ..)
                    have := ih fun x hx => hl' x (List.mem_cons_of_mem _ hx)
                    have hp : 0 ≤ times.getD j 0 := by rw [List.getD_eq_getElem?_getD, List.getElem?_eq_getElem hj]; exact hpos _ (List.getElem_mem _)
                    rw [List.map_cons, List.sum_cons]
                    split <;> omega
                omega
              have := mono (ord.take (k + 1)) (ord.drop (k + 1)) (fun j hj => hlt j (List.mem_of_mem_drop hj))
              rwa [List.take_append_drop] at this) hK hjk
          rw [msum_jobs _ _ _ _ fun j hj => (hbx j hj).1] at a
          rw [e4]
          have b : (m : Int) * (loadL times (giveL times ord m) c (ord.take k) + times.getD ord[k] 0) ≤ m * K := Int.mul_le_mul_of_nonneg_left a (by omega)
          rw [Int.mul_assoc]; omega
        · rw [← ec, e4, Int.mul_assoc, Int.mul_add]
          have b : ((m : Int) - 1) * (3 * times.getD ord[k] 0) ≤ (m - 1) * K := Int.mul_le_mul_of_nonneg_left h3 (by omega)
          have e2 : (m : Int) * times.getD ord[k] 0 = (m - 1) * times.getD ord[k] 0 + times.getD ord[k] 0 := by rw [Int.sub_mul, Int.one_mul]; omega
          have e5 : ((m : Int) - 1) * (3 * times.getD ord[k] 0) = 3 * ((m - 1) * times.getD ord[k] 0) := by rw [Int.mul_left_comm]
          omega
      · rw [if_neg ec, Int.add_zero]; exact ih
  have a := key ord.length (Nat.le_refl _)
  rw [List.take_length] at a
  unfold loadOf
  rw [← loadL_perm _ _ _ hp]
  exact a

/-- what wrap.Long tells -/
def fairOf (times : List Int) (m : Nat) : Int := max (times.foldl max 0) ((times.sum + m - 1) / m)
theorem foldl_max : ∀ (l : List Int) (a : Int), a ≤ l.foldl max a ∧ (∀ x ∈ l, x ≤ l.foldl max a) ∧ (l.foldl max a = a ∨ l.foldl max a ∈ l)
  | [], a => ⟨Int.le_refl _, fun x h => by simp at h, Or.inl rfl⟩
  | y :: l, a => by
    obtain ⟨h1, h2, h3⟩ := foldl_max l (max a y)
    simp only [List.foldl_cons]
    refine ⟨by omega, fun x hx => ?_, ?_⟩
    · rcases List.mem_cons.1 hx with e | e
      · omega
      · exact h2 x e
    · rcases h3 with e | e
      · rw [e]
        rcases Int.le_total a y with h | h
        · right; rw [Int.max_eq_right h]; exact List.mem_cons_self ..
        · left; exact Int.max_eq_left h
      · right; exact List.mem_cons_of_mem _ e
theorem ceil_le (s : Int) (m : Nat) (hm : 1 ≤ m) (k : Int) (h : s ≤ m * k) : (s + m - 1) / m ≤ k := by
  have : (s + m - 1) / m < k + 1 := Int.ediv_lt_of_lt_mul (by omega) (by rw [Int.add_mul, Int.mul_comm k]; omega)
  omega
theorem le_ceil (s : Int) (m : Nat) (hm : 1 ≤ m) : s ≤ m * ((s + m - 1) / m) := by
  have h1 := Int.emod_add_mul_ediv (s + m - 1) m
  have h2 := Int.emod_lt_of_pos (s + m - 1) (b := (m : Int)) (by omega)
  omega
theorem fair_le {times on : List Int} {m : Nat} (hm : 1 ≤ m) (h : OnOk times m on) (hpos : ∀ t ∈ times, 0 ≤ t) : fairOf times m ≤ longOf times on m := by
  unfold fairOf
  have a := ceil_le times.sum m hm _ (sum_le h)
  have b := (foldl_max times 0).2.2
  have c := (long_sum (times := times) (on := on) hm hpos).1
  have d : times.foldl max 0 ≤ longOf times on m := by
    rcases b with e | e
    · omega
    · obtain ⟨i, hi, e'⟩ := List.mem_iff_getElem.1 e
      have := job_le h hpos i hi
      rw [List.getD_eq_getElem?_getD, List.getElem?_eq_getElem hi] at this
      rw [← e']; exact this
  omega
theorem give_near (times : List Int) (m : Nat) (hm : 1 ≤ m) (ord : List Nat) (hp : ord.Perm (List.range times.length)) (hpos : ∀ t ∈ times, 0 ≤ t) :
    longOf times (giveL times ord m) m ≤ fairOf times m + times.foldl max 0 := by
  obtain ⟨c, hc, e⟩ := long_is times (giveL times ord m) m hm
  have b := foldl_max times 0
  have a := graham times m hm ord hp (times.foldl max 0) (fun t ht => ⟨hpos t ht, b.2.1 t ht⟩) b.1 c
  rw [e]
  have d := le_ceil times.sum m hm
  generalize times.foldl max 0 = P at a b
  have hf : (times.sum + m - 1) / m ≤ fairOf times m := by unfold fairOf; omega
  generalize fairOf times m = n at hf
  generalize (times.sum + m - 1) / m = q at hf d
  generalize loadOf times (giveL times ord m) c = L at a
  have h1 : (m : Int) * q ≤ m * n := Int.mul_le_mul_of_nonneg_left hf (by omega)
  have h2 : ((m : Int) - 1) * P = m * P - P := by rw [Int.sub_mul, Int.one_mul]
  have h3 : (m : Int) * L ≤ m * (n + P) := by rw [Int.mul_add]; omega
  exact Int.le_of_mul_le_mul_left h3 (by omega)
end ShareLaw
