namespace Go.Proofs.YtomgcfjdmoefgaaDoor.CoinsPlain

/-! ### the fewest coins -/
/-- one entry of the table: of `s`, over the table below it -/
def stepF (c : List Int) (few : List Int) (s : Nat) (acc : Int) : Int :=
  c.foldl (fun acc n => if n ≤ (s : Int) then min acc (few.getD (s - n.toNat) 0 + 1) else acc) acc
/-- the table up to `m` -/
def fewL (c : List Int) : Nat → List Int
  | 0 => [0]
  | m + 1 => fewL c m ++ [stepF c (fewL c m) (m + 1) ((m + 1 : Nat) : Int)]
def F (c : List Int) (s : Nat) : Int := (fewL c s).getD s 0

theorem fewL_length (c : List Int) (m : Nat) : (fewL c m).length = m + 1 := by
  induction m with
  | zero => rfl
  | succ m ih => simp [fewL, ih]

theorem fewL_getD (c : List Int) (m s : Nat) (h : s ≤ m) : (fewL c m).getD s 0 = F c s := by
  induction m with
  | zero => have : s = 0 := by omega
            subst this; rfl
  | succ m ih =>
    by_cases e : s = m + 1
    · subst e; rfl
    · have := ih (by omega)
      rw [← this]
      simp only [fewL]
      rw [List.getD_eq_getElem?_getD, List.getD_eq_getElem?_getD, List.getElem?_append_left (by rw [fewL_length]; omega)]

theorem F_zero (c : List Int) : F c 0 = 0 := rfl
theorem F_succ (c : List Int) (m : Nat) : F c (m + 1) = stepF c (fewL c m) (m + 1) ((m + 1 : Nat) : Int) := by
  unfold F
  simp only [fewL]
  rw [List.getD_eq_getElem?_getD, List.getElem?_append_right (by rw [fewL_length]; omega), fewL_length]
  simp

theorem stepF_le_acc (c few : List Int) (s : Nat) (acc : Int) : stepF c few s acc ≤ acc := by
  unfold stepF
  induction c generalizing acc with
  | nil => simp
  | cons a c ih =>
    simp only [List.foldl_cons]
    refine Int.le_trans (ih _) ?_
    split <;> omega

theorem stepF_le (c few : List Int) (s : Nat) (acc : Int) (n : Int) (hn : n ∈ c) (hs : n ≤ (s : Int)) : stepF c few s acc ≤ few.getD (s - n.toNat) 0 + 1 := by
  unfold stepF
  induction c generalizing acc with
  | nil => simp at hn
  | cons a c ih =>
    simp only [List.foldl_cons]
    rcases List.mem_cons.1 hn with rfl | h
    · rw [if_pos hs]
      refine Int.le_trans (stepF_le_acc c few s _) ?_
      omega
    · exact ih _ h

theorem stepF_reach (c few : List Int) (s : Nat) (acc : Int) : stepF c few s acc = acc ∨ ∃ n ∈ c, n ≤ s ∧ stepF c few s acc = few.getD (s - n.toNat) 0 + 1 := by
  unfold stepF
  induction c generalizing acc with
  | nil => left; rfl
  | cons a c ih =>
    simp only [List.foldl_cons]
    rcases ih (if a ≤ (s : Int) then min acc (few.getD (s - a.toNat) 0 + 1) else acc) with h | ⟨n, hn, hs, h⟩
    · rw [h]
      by_cases ha : a ≤ (s : Int)
      · rw [if_pos ha]
        rcases Int.le_total acc (few.getD (s - a.toNat) 0 + 1) with hh | hh
        · left; omega
        · right; exact ⟨a, by simp, ha, by omega⟩
      · left; rw [if_neg ha]
    · right; exact ⟨n, List.mem_cons_of_mem _ hn, hs, h⟩

/-- coins that may be: 1 is one, all are positive -/
structure OKc (c : List Int) : Prop where
  one : 1 ∈ c
  pos : ∀ n ∈ c, 1 ≤ n

theorem F_le_coin {c : List Int} (hc : OKc c) (s : Nat) (n : Int) (hn : n ∈ c) (hs : n ≤ s) : F c s ≤ F c (s - n.toNat) + 1 := by
  have h1 := hc.pos n hn
  cases s with
  | zero => omega
  | succ m =>
    rw [F_succ]
    have := stepF_le c (fewL c m) (m + 1) ((m + 1 : Nat) : Int) n hn hs
    rw [fewL_getD c m _ (by omega)] at this
    exact this

theorem F_le_self (c : List Int) (s : Nat) : F c s ≤ s := by
  cases s with
  | zero => simp [F_zero]
  | succ m => rw [F_succ]; exact stepF_le_acc _ _ _ _

theorem F_reach {c : List Int} (hc : OKc c) (s : Nat) (h0 : 0 < s) : ∃ n ∈ c, n ≤ s ∧ F c s = F c (s - n.toNat) + 1 := by
  cases s with
  | zero => omega
  | succ m =>
    rcases stepF_reach c (fewL c m) (m + 1) ((m + 1 : Nat) : Int) with h | ⟨n, hn, hs, h⟩
    · refine ⟨1, hc.one, by omega, ?_⟩
      have a := F_le_coin hc (m + 1) 1 hc.one (by omega)
      have b := F_le_self c (m + 1 - (1 : Int).toNat)
      rw [← F_succ] at h
      have e : (m + 1 - (1 : Int).toNat) = m := by simp
      rw [e] at a b ⊢
      omega
    · refine ⟨n, hn, hs, ?_⟩
      have h1 := hc.pos n hn
      rw [← F_succ, fewL_getD c m _ (by omega)] at h
      exact h

theorem F_nonneg {c : List Int} (hc : OKc c) (s : Nat) : 0 ≤ F c s := by
  induction s using Nat.strongRecOn with
  | _ s ih =>
    by_cases h0 : s = 0
    · subst h0; simp [F_zero]
    · obtain ⟨n, hn, hs, h⟩ := F_reach hc s (by omega)
      have h1 := hc.pos n hn
      have := ih (s - n.toNat) (by omega)
      omega
theorem F_pos {c : List Int} (hc : OKc c) (s : Nat) (h0 : 0 < s) : 1 ≤ F c s := by
  obtain ⟨n, _, _, h⟩ := F_reach hc s h0
  have := F_nonneg hc (s - n.toNat)
  omega

/-- TWO SUMS TOGETHER TAKE NO MORE THAN BOTH -/
theorem F_add {c : List Int} (hc : OKc c) (s t : Nat) : F c (s + t) ≤ F c s + F c t := by
  induction s using Nat.strongRecOn with
  | _ s ih =>
    by_cases h0 : s = 0
    · subst h0; simp [F_zero]
    · obtain ⟨n, hn, hs, h⟩ := F_reach hc s (by omega)
      have h1 := hc.pos n hn
      have a := ih (s - n.toNat) (by omega)
      have b := F_le_coin hc (s + t) n hn (by omega)
      have e : s + t - n.toNat = s - n.toNat + t := by omega
      rw [e] at b
      omega

/-- more coins, no harder -/
theorem F_more {c d : List Int} (hc : OKc c) (hd : OKc d) (hsub : ∀ n ∈ c, n ∈ d) (s : Nat) : F d s ≤ F c s := by
  induction s using Nat.strongRecOn with
  | _ s ih =>
    by_cases h0 : s = 0
    · subst h0; simp [F_zero]
    · obtain ⟨n, hn, hs, h⟩ := F_reach hc s (by omega)
      have h1 := hc.pos n hn
      have a := ih (s - n.toNat) (by omega)
      have b := F_le_coin hd s n (hsub n hn) hs
      omega

/-- k coins of a kind -/
theorem F_le_many {c : List Int} (hc : OKc c) (n : Int) (hn : n ∈ c) (k s : Nat) (hs : k * n.toNat ≤ s) : F c s ≤ F c (s - k * n.toNat) + k := by
  induction k generalizing s with
  | zero => simp
  | succ k ih =>
    have h1 := hc.pos n hn
    rw [Nat.succ_mul] at hs
    have a := F_le_coin hc s n hn (by omega)
    have b := ih (s - n.toNat) (by omega)
    have e : s - n.toNat - k * n.toNat = s - (k + 1) * n.toNat := by rw [Nat.succ_mul]; omega
    rw [e] at b
    omega

/-! ### what many of each are worth -/
def worthL : List Int → List Int → Int
  | n :: c, k :: m => k * n + worthL c m
  | _, _ => 0
theorem worthL_nonneg (c m : List Int) (hc : ∀ n ∈ c, 1 ≤ n) (hm : ∀ k ∈ m, 0 ≤ k) : 0 ≤ worthL c m := by
  induction c generalizing m with
  | nil => simp [worthL]
  | cons n c ih =>
    cases m with
    | nil => simp [worthL]
    | cons k m =>
      simp only [worthL]
      have a := ih m (fun x hx => hc x (List.mem_cons_of_mem _ hx)) (fun x hx => hm x (List.mem_cons_of_mem _ hx))
      have b := Int.mul_nonneg (hm k (by simp)) (show 0 ≤ n by have := hc n (by simp); omega)
      omega

/-- NO ONE PAYS WITH FEWER -/
theorem F_le_any {c : List Int} (hc : OKc c) (d m : List Int) (hd : ∀ n ∈ d, n ∈ c) (hm : ∀ k ∈ m, 0 ≤ k) (hl : m.length = d.length) : F c (worthL d m).toNat ≤ m.sum := by
  induction d generalizing m with
  | nil =>
    have : m = [] := List.eq_nil_of_length_eq_zero (by simpa using hl)
    subst this; simp [worthL, F_zero]
  | cons n d ih =>
    cases m with
    | nil => simp at hl
    | cons k m =>
      simp only [worthL, List.sum_cons]
      have hk := hm k (by simp)
      have hn := hd n (by simp)
      have h1 := hc.pos n hn
      have a := ih m (fun x hx => hd x (List.mem_cons_of_mem _ hx)) (fun x hx => hm x (List.mem_cons_of_mem _ hx)) (by simpa using hl)
      have w0 := worthL_nonneg d m (fun x hx => hc.pos x (hd x (List.mem_cons_of_mem _ hx))) (fun x hx => hm x (List.mem_cons_of_mem _ hx))
      have b0 := Int.mul_nonneg hk (show 0 ≤ n by omega)
      have e : (k * n + worthL d m).toNat = (worthL d m).toNat + k.toNat * n.toNat := by
        have : ((k.toNat * n.toNat : Nat) : Int) = k * n := by rw [Int.natCast_mul, Int.toNat_of_nonneg hk, Int.toNat_of_nonneg (by omega)]
        omega
      rw [e]
      have b := F_le_many hc n hn k.toNat ((worthL d m).toNat + k.toNat * n.toNat) (by omega)
      have e2 : (worthL d m).toNat + k.toNat * n.toNat - k.toNat * n.toNat = (worthL d m).toNat := by omega
      rw [e2] at b
      omega

/-! ### Greedy -/
/-- of the first `k` coins, the greatest first -/
def grd (c : List Int) : Nat → Int → List Int
  | 0, _ => []
  | k + 1, s => grd c k (s % c.getD k 0) ++ [s / c.getD k 0]
theorem grd_length (c : List Int) (k : Nat) (s : Int) : (grd c k s).length = k := by
  induction k generalizing s with
  | zero => rfl
  | succ k ih => simp [grd, ih]
def gc (c : List Int) (k : Nat) (s : Int) : Int := (grd c k s).sum
theorem gc_succ (c : List Int) (k : Nat) (s : Int) : gc c (k + 1) s = gc c k (s % c.getD k 0) + s / c.getD k 0 := by
  simp [gc, grd]

theorem grd_nonneg (c : List Int) (hc : ∀ n ∈ c, 1 ≤ n) (k : Nat) (hk : k ≤ c.length) (s : Int) (hs : 0 ≤ s) : ∀ x ∈ grd c k s, 0 ≤ x := by
  induction k generalizing s with
  | zero => simp [grd]
  | succ k ih =>
    have hm : c.getD k 0 ∈ c := by rw [List.getD_eq_getElem?_getD, List.getElem?_eq_getElem (by omega)]; simp
    have h1 := hc _ hm
    intro x hx
    simp only [grd, List.mem_append, List.mem_singleton] at hx
    rcases hx with hx | rfl
    · exact ih (by omega) _ (Int.emod_nonneg _ (by omega)) x hx
    · exact Int.ediv_nonneg hs (by omega)

theorem take_succ_getD (c : List Int) (k : Nat) (h : k < c.length) : c.take (k + 1) = c.take k ++ [c.getD k 0] := by
  rw [List.take_add_one, List.getD_eq_getElem?_getD, List.getElem?_eq_getElem h]; rfl

theorem worthL_snoc (c m : List Int) (n k : Int) (h : m.length = c.length) : worthL (c ++ [n]) (m ++ [k]) = worthL c m + k * n := by
  induction c generalizing m with
  | nil =>
    have : m = [] := List.eq_nil_of_length_eq_zero (by simpa using h)
    subst this; simp [worthL]
  | cons a c ih =>
    cases m with
    | nil => simp at h
    | cons b m =>
      simp only [List.cons_append, worthL]
      rw [ih m (by simpa using h)]; omega

theorem grd_worth (c : List Int) (h1 : c.getD 0 0 = 1) (k : Nat) (hk0 : 0 < k) (hk : k ≤ c.length) (s : Int) : worthL (c.take k) (grd c k s) = s := by
  induction k generalizing s with
  | zero => omega
  | succ k ih =>
    rw [take_succ_getD c k (by omega)]
    simp only [grd]
    rw [worthL_snoc _ _ _ _ (by rw [grd_length, List.length_take]; omega)]
    by_cases e : k = 0
    · subst e; rw [h1]; simp [grd, worthL]
    · rw [ih (by omega) (by omega)]
      have := Int.emod_add_mul_ediv s (c.getD k 0)
      rw [Int.mul_comm (s / _)]; exact this

/-- rising from 1 on -/
structure Up (c : List Int) : Prop where
  one : c.getD 0 0 = 1
  ne : 0 < c.length
  up : ∀ i, i + 1 < c.length → c.getD i 0 < c.getD (i + 1) 0

theorem Up.mono {c : List Int} (h : Up c) (i j : Nat) (hij : i ≤ j) (hj : j < c.length) : c.getD i 0 ≤ c.getD j 0 := by
  induction j with
  | zero => have : i = 0 := by omega
            subst this; omega
  | succ j ih =>
    by_cases e : i = j + 1
    · subst e; omega
    · have := ih (by omega) (by omega)
      have := h.up j hj
      omega
theorem Up.lt {c : List Int} (h : Up c) (i j : Nat) (hij : i < j) (hj : j < c.length) : c.getD i 0 < c.getD j 0 := by
  have := h.mono i (j - 1) (by omega) (by omega)
  have := h.up (j - 1) (by omega)
  have e : j - 1 + 1 = j := by omega
  rw [e] at this
  omega
theorem Up.ge1 {c : List Int} (h : Up c) (i : Nat) (hi : i < c.length) : 1 ≤ c.getD i 0 := by
  have := h.mono 0 i (by omega) hi
  have := h.one
  omega
theorem Up.idx {c : List Int} {n : Int} (hn : n ∈ c) : ∃ i, i < c.length ∧ c.getD i 0 = n := by
  obtain ⟨i, hi, e⟩ := List.mem_iff_getElem.1 hn
  exact ⟨i, hi, by rw [List.getD_eq_getElem?_getD, List.getElem?_eq_getElem hi]; simpa using e⟩
theorem Up.mem {c : List Int} (i : Nat) (hi : i < c.length) : c.getD i 0 ∈ c := by
  rw [List.getD_eq_getElem?_getD, List.getElem?_eq_getElem hi]; simp
theorem Up.ok {c : List Int} (h : Up c) : OKc c :=
  ⟨by have := Up.mem (c := c) 0 h.ne; rw [h.one] at this; exact this, fun n hn => by obtain ⟨i, hi, rfl⟩ := Up.idx hn; exact h.ge1 i hi⟩

/-- Greedy's number of coins for a sum -/
def G (c : List Int) (s : Nat) : Int := gc c c.length s

theorem G_ge_F {c : List Int} (h : Up c) (s : Nat) : F c s ≤ G c s := by
  have hw := grd_worth c h.one c.length h.ne (Nat.le_refl _) (s : Int)
  rw [List.take_length] at hw
  have := F_le_any h.ok c (grd c c.length s) (fun n hn => hn) (grd_nonneg c h.ok.pos c.length (Nat.le_refl _) s (by omega)) (grd_length _ _ _)
  rw [hw] at this
  exact this

theorem gc_small (c : List Int) (k : Nat) (s : Int) (h0 : 0 ≤ s) (h : s < c.getD k 0) : gc c (k + 1) s = gc c k s := by
  rw [gc_succ, Int.emod_eq_of_lt h0 h, Int.ediv_eq_zero_of_lt h0 h]; omega
theorem gc_smalls (c : List Int) (hu : Up c) (j k : Nat) (hjk : j ≤ k) (hk : k ≤ c.length) (s : Int) (h0 : 0 ≤ s) (h : j < c.length → s < c.getD j 0) : gc c k s = gc c j s := by
  induction k with
  | zero => have : j = 0 := by omega
            subst this; rfl
  | succ k ih =>
    by_cases e : j = k + 1
    · subst e; rfl
    · rw [gc_small c k s h0 (by have := hu.mono j k (by omega) (by omega); have := h (by omega); omega)]
      exact ih (by omega) (by omega)

theorem gc_take (c : List Int) (k : Nat) (s : Int) (hx : 1 ≤ c.getD k 0) : gc c (k + 1) s = gc c (k + 1) (s - c.getD k 0) + 1 := by
  rw [gc_succ, gc_succ]
  have e1 : (s - c.getD k 0) % c.getD k 0 = s % c.getD k 0 := by rw [Int.sub_emod, Int.emod_self]; simp
  have e2 : (s - c.getD k 0) / c.getD k 0 = s / c.getD k 0 - 1 := by
    rw [Int.sub_ediv_of_dvd _ (Int.dvd_refl _), Int.ediv_self (by omega)]
  rw [e1, e2]; omega

/-- Greedy takes the greatest coin first -/
theorem G_top {c : List Int} (h : Up c) (s : Nat) (hs : c.getD (c.length - 1) 0 ≤ s) : G c s = G c (s - (c.getD (c.length - 1) 0).toNat) + 1 := by
  have hl := h.ne
  have hx := h.ge1 (c.length - 1) (by omega)
  unfold G
  have e : c.length = c.length - 1 + 1 := by omega
  have := gc_take c (c.length - 1) s hx
  rw [← e] at this
  rw [this]
  congr 2
  omega

/-- with two coins Greedy is best -/
theorem F_small2 {c : List Int} (h : Up c) (s : Nat) (hs : 2 < c.length → s ≤ c.getD 2 0) : G c s = F c s := by
  have hok := h.ok
  -- below the third coin alone
  have key : ∀ s : Nat, (2 < c.length → (s : Int) < c.getD 2 0) → G c s = F c s := by
    intro s
    induction s using Nat.strongRecOn with
    | _ s ih =>
      intro hs
      by_cases h0 : s = 0
      · subst h0
        have := G_ge_F h 0
        have : G c 0 = gc c 0 0 := by
          unfold G
          exact gc_smalls c h 0 c.length (by omega) (Nat.le_refl _) 0 (by omega) (fun hh => by have := h.ge1 0 hh; show (0 : Int) < _; omega)
        rw [F_zero]; simpa [gc, grd] using this
      · -- what F takes
        by_cases h2 : 1 < c.length ∧ c.getD 1 0 ≤ s
        · obtain ⟨hl, hle⟩ := h2
          have hc1 := h.ge1 1 hl
          have hc01 := h.up 0 (by omega)
          rw [h.one] at hc01
          have hG : G c s = G c (s - (c.getD 1 0).toNat) + 1 := by
            have a : G c s = gc c 2 s := gc_smalls c h 2 c.length (by omega) (Nat.le_refl _) s (by omega) hs
            have b : G c (s - (c.getD 1 0).toNat) = gc c 2 ((s - (c.getD 1 0).toNat : Nat) : Int) := gc_smalls c h 2 c.length (by omega) (Nat.le_refl _) _ (by omega) (fun hh => by have := hs hh; omega)
            rw [a, b, gc_take c 1 s hc1]
            congr 2; omega
          have ih1 := ih (s - (c.getD 1 0).toNat) (by omega) (fun hh => by have := hs hh; omega)
          have ge := G_ge_F h s
          have le : G c s ≤ F c s := by
            -- the coin that F takes is 1 or the second one
            obtain ⟨n, hn, hns, hF⟩ := F_reach hok s (by omega)
            obtain ⟨i, hi, rfl⟩ := Up.idx hn
            have hi2 : i < 2 := by
              rcases Nat.lt_or_ge i 2 with hh | hh
              · exact hh
              · exfalso
                have := h.mono 2 i hh hi
                have := hs (by omega)
                omega
            by_cases e1 : i = 1
            · subst e1; omega
            · have e0 : i = 0 := by omega
              subst e0
              rw [h.one] at hF hns
              have e : s - (1 : Int).toNat = s - 1 := by simp
              rw [e] at hF
              have ih0 := ih (s - 1) (by omega) (fun hh => by have := hs hh; omega)
              -- G (s-1) is at least G (s - c1)
              have mono : G c (s - (c.getD 1 0).toNat) ≤ G c (s - 1) := by
                by_cases hq : c.getD 1 0 ≤ ((s - 1 : Nat) : Int)
                · have a : G c (s - 1) = G c (s - 1 - (c.getD 1 0).toNat) + 1 := by
                    have a : G c (s - 1) = gc c 2 ((s - 1 : Nat) : Int) := gc_smalls c h 2 c.length (by omega) (Nat.le_refl _) _ (by omega) (fun hh => by have := hs hh; omega)
                    have b : G c (s - 1 - (c.getD 1 0).toNat) = gc c 2 ((s - 1 - (c.getD 1 0).toNat : Nat) : Int) := gc_smalls c h 2 c.length (by omega) (Nat.le_refl _) _ (by omega) (fun hh => by have := hs hh; omega)
                    rw [a, b, gc_take c 1 _ hc1]
                    congr 2; omega
                  have ihA := ih (s - 1 - (c.getD 1 0).toNat) (by omega) (fun hh => by have := hs hh; omega)
                  have hstep := F_le_coin hok (s - (c.getD 1 0).toNat) 1 hok.one (by omega)
                  have e3 : s - (c.getD 1 0).toNat - (1 : Int).toNat = s - 1 - (c.getD 1 0).toNat := by simp; omega
                  rw [e3] at hstep
                  omega
                · -- s = c1
                  have e4 : s - (c.getD 1 0).toNat = 0 := by omega
                  rw [e4]
                  have g0 : G c 0 = 0 := by rw [ih 0 (by omega) (fun hh => by have := h.ge1 2 hh; omega)]; rfl
                  have := G_ge_F h (s - 1)
                  have := F_nonneg hok (s - 1)
                  omega
              omega
          omega
        · -- the first coin alone
          have hG : G c s = s := by
            have hl1 : 1 < c.length → (s : Int) < c.getD 1 0 := fun hh => by
              rcases Int.lt_or_le (s : Int) (c.getD 1 0) with hq | hq
              · exact hq
              · exact absurd ⟨hh, hq⟩ h2
            have a : G c s = gc c 1 s := gc_smalls c h 1 c.length h.ne (Nat.le_refl _) s (by omega) hl1
            rw [a, gc_succ, h.one]; simp [gc, grd]
          have hF : F c s = s := by
            obtain ⟨n, hn, hns, hF⟩ := F_reach hok s (by omega)
            obtain ⟨i, hi, rfl⟩ := Up.idx hn
            have e0 : i = 0 := by
              rcases Nat.lt_or_ge i 1 with hh | hh
              · omega
              · exfalso
                have := h.mono 1 i hh hi
                exact h2 ⟨by omega, by omega⟩
            subst e0
            rw [h.one] at hF
            have e : s - (1 : Int).toNat = s - 1 := by simp
            rw [e] at hF
            have ih0 := ih (s - 1) (by omega) (fun hh => by have := hs hh; omega)
            have g1 : G c (s - 1) = ((s - 1 : Nat) : Int) := by
              have hl1 : 1 < c.length → ((s - 1 : Nat) : Int) < c.getD 1 0 := fun hh => by
                rcases Int.lt_or_le (s : Int) (c.getD 1 0) with hq | hq
                · omega
                · exact absurd ⟨hh, hq⟩ h2
              have a : G c (s - 1) = gc c 1 ((s - 1 : Nat) : Int) := gc_smalls c h 1 c.length h.ne (Nat.le_refl _) _ (by omega) hl1
              rw [a, gc_succ, h.one]; simp [gc, grd]
            omega
          omega
  by_cases hlt : 2 < c.length → (s : Int) < c.getD 2 0
  · exact key s hlt
  · -- the third coin itself: one coin
    have hl : 2 < c.length := by
      rcases Nat.lt_or_ge 2 c.length with hh | hh
      · exact hh
      · exact absurd (fun h' => by omega) hlt
    have he : (s : Int) = c.getD 2 0 := by
      rcases Int.lt_or_le (s : Int) (c.getD 2 0) with hq | hq
      · exact absurd (fun _ => hq) hlt
      · have := hs hl; omega
    have hc2 := h.ge1 2 hl
    have ge := G_ge_F h s
    have hp := F_pos hok s (by omega)
    have hG : G c s = 1 := by
      have a : G c s = gc c 3 s := gc_smalls c h 3 c.length hl (Nat.le_refl _) s (by omega) (fun hh => by have := h.lt 2 3 (by omega) hh; omega)
      rw [a, gc_take c 2 s hc2]
      have e : (s : Int) - c.getD 2 0 = 0 := by omega
      rw [e]
      have b : gc c 3 0 = gc c 0 0 := gc_smalls c h 0 3 (by omega) hl 0 (by omega) (fun hh => by have := h.ge1 0 hh; omega)
      rw [b]; simp [gc, grd]
    omega

/-- KOZEN, ZAKS: the least sum at which Greedy is not best lies below the two greatest coins together, and above the third one -/
theorem kozen_zaks {c : List Int} (h : Up c) (x : Nat) (hx : F c x < G c x) (hmin : ∀ y, y < x → G c y = F c y) :
    2 < c.length ∧ c.getD 2 0 < x ∧ (x : Int) < c.getD (c.length - 1) 0 + c.getD (c.length - 2) 0 := by
  have hok := h.ok
  have hl : 2 < c.length := by
    rcases Nat.lt_or_ge 2 c.length with hh | hh
    · exact hh
    · have := F_small2 h x (fun h' => by omega); omega
  refine ⟨hl, ?_, ?_⟩
  · rcases Int.lt_or_le (c.getD 2 0) (x : Int) with hq | hq
    · exact hq
    · have := F_small2 h x (fun _ => hq); omega
  · rcases Int.lt_or_le (x : Int) (c.getD (c.length - 1) 0 + c.getD (c.length - 2) 0) with hq | hq
    · exact hq
    · exfalso
      have t1 := h.ge1 (c.length - 1) (by omega)
      have t2 := h.ge1 (c.length - 2) (by omega)
      generalize hT : c.getD (c.length - 1) 0 = T at *
      have hxT : T ≤ x := by omega
      have hTm : T ∈ c := by rw [← hT]; exact Up.mem _ (by omega)
      have gx : G c x = G c (x - T.toNat) + 1 := by
        have := G_top h x (by rw [hT]; exact hxT)
        rw [hT] at this; exact this
      have mx := hmin (x - T.toNat) (by omega)
      obtain ⟨n, hn, hns, hF⟩ := F_reach hok x (by omega)
      obtain ⟨i, hi, hci⟩ := Up.idx hn
      have hn1 := hok.pos n hn
      by_cases e : i = c.length - 1
      · subst e
        rw [hT] at hci; subst hci
        omega
      · have hin := h.mono i (c.length - 2) (by omega) (by omega)
        rw [hci] at hin
        have my := hmin (x - n.toNat) (by omega)
        have gy : G c (x - n.toNat) = G c (x - n.toNat - T.toNat) + 1 := by
          have := G_top h (x - n.toNat) (by rw [hT]; omega)
          rw [hT] at this; exact this
        have g1 := G_ge_F h (x - n.toNat - T.toNat)
        have f1 := F_le_coin hok (x - T.toNat) n hn (by omega)
        have e2 : x - T.toNat - n.toNat = x - n.toNat - T.toNat := by omega
        rw [e2] at f1
        omega

/-- so: if there is none up to twice the greatest coin, there is none -/
theorem always_of {c : List Int} (h : Up c) (hall : ∀ s : Nat, (s : Int) ≤ 2 * c.getD (c.length - 1) 0 → G c s = F c s) (s : Nat) : G c s = F c s := by
  induction s using Nat.strongRecOn with
  | _ s ih =>
    have ge := G_ge_F h s
    rcases Int.lt_or_le (F c s) (G c s) with hlt | hle
    · obtain ⟨hl, _, h2⟩ := kozen_zaks h s hlt (fun y hy => ih y hy)
      have := h.mono (c.length - 2) (c.length - 1) (by omega) (by omega)
      exact hall s (by omega)
    · omega

/-! ### Best -/
/-- does some best way to pay `s` have a coin `x`? -/
def Uses (c : List Int) (x : Int) (s : Nat) : Prop := x ≤ (s : Int) ∧ F c (s - x.toNat) + 1 = F c s
instance (c : List Int) (x : Int) (s : Nat) : Decidable (Uses c x s) := inferInstanceAs (Decidable (_ ∧ _))
def useN (c : List Int) (x : Int) : Nat → Nat → Nat
  | 0, _ => 0
  | f + 1, s => if Uses c x s then 1 + useN c x f (s - x.toNat) else 0
theorem useN_stable (c : List Int) (x : Int) (hx : 1 ≤ x) (f g s : Nat) (hf : s ≤ f) (hg : s ≤ g) : useN c x f s = useN c x g s := by
  induction f generalizing s g with
  | zero =>
    have : s = 0 := by omega
    subst this
    cases g with
    | zero => rfl
    | succ g =>
      have h : ¬ Uses c x 0 := fun h => by have := h.1; omega
      simp [useN, h]
  | succ f ih =>
    cases g with
    | zero =>
      have : s = 0 := by omega
      subst this
      have h : ¬ Uses c x 0 := fun h => by have := h.1; omega
      simp [useN, h]
    | succ g =>
      simp only [useN]
      by_cases h : Uses c x s
      · have := h.1
        rw [if_pos h, if_pos h, ih g (s - x.toNat) (by omega) (by omega)]
      · rw [if_neg h, if_neg h]
def uses (c : List Int) (x : Int) (s : Nat) : Nat := useN c x s s
theorem uses_yes {c : List Int} {x : Int} {s : Nat} (hx : 1 ≤ x) (h : Uses c x s) : uses c x s = uses c x (s - x.toNat) + 1 := by
  have := h.1
  unfold uses
  rw [show s = s - 1 + 1 by omega]
  simp only [useN]
  rw [show s - 1 + 1 = s by omega, if_pos h, useN_stable c x hx (s - 1) (s - x.toNat) _ (by omega) (by omega), Nat.add_comm]
theorem uses_no {c : List Int} {x : Int} {s : Nat} (h : ¬ Uses c x s) : uses c x s = 0 := by
  unfold uses
  cases s with
  | zero => rfl
  | succ s => simp only [useN]; rw [if_neg h]

theorem uses_spec {c : List Int} {x : Int} (hx : 1 ≤ x) (s : Nat) :
    uses c x s * x.toNat ≤ s ∧ F c (s - uses c x s * x.toNat) + uses c x s = F c s ∧ ¬ Uses c x (s - uses c x s * x.toNat) := by
  induction s using Nat.strongRecOn with
  | _ s ih =>
    by_cases h : Uses c x s
    · have h1 := h.1
      have h2 := h.2
      obtain ⟨a, b, d⟩ := ih (s - x.toNat) (by omega)
      rw [uses_yes hx h, Nat.succ_mul]
      have e : s - (uses c x (s - x.toNat) * x.toNat + x.toNat) = s - x.toNat - uses c x (s - x.toNat) * x.toNat := by omega
      rw [e]
      exact ⟨by omega, by omega, d⟩
    · rw [uses_no h]
      simp only [Nat.zero_mul, Nat.sub_zero]
      exact ⟨by omega, by omega, h⟩

theorem Uses_down {c : List Int} (hc : OKc c) {x y : Int} (hx : x ∈ c) (hy : y ∈ c) {s : Nat} (hu : Uses c x s) (h : Uses c y (s - x.toNat)) : Uses c y s := by
  obtain ⟨a, b⟩ := hu
  obtain ⟨a', b'⟩ := h
  have x1 := hc.pos x hx
  have y1 := hc.pos y hy
  refine ⟨by omega, ?_⟩
  have f1 := F_le_coin hc (s - y.toNat) x hx (by omega)
  have f2 := F_le_coin hc s y hy (by omega)
  have e : s - y.toNat - x.toNat = s - x.toNat - y.toNat := by omega
  rw [e] at f1
  omega
theorem Uses_downs {c : List Int} (hc : OKc c) {x y : Int} (hx : x ∈ c) (hy : y ∈ c) (s : Nat) (h : Uses c y (s - uses c x s * x.toNat)) : Uses c y s := by
  have x1 := hc.pos x hx
  induction s using Nat.strongRecOn with
  | _ s ih =>
    by_cases hu : Uses c x s
    · have := hu.1
      rw [uses_yes x1 hu, Nat.succ_mul] at h
      have e : s - (uses c x (s - x.toNat) * x.toNat + x.toNat) = s - x.toNat - uses c x (s - x.toNat) * x.toNat := by omega
      rw [e] at h
      exact Uses_down hc hx hy hu (ih (s - x.toNat) (by omega) h)
    · rw [uses_no hu] at h
      simpa using h

def bst (c : List Int) : Nat → Nat → List Int
  | 0, _ => []
  | k + 1, s => bst c k (s - uses c (c.getD k 0) s * (c.getD k 0).toNat) ++ [(uses c (c.getD k 0) s : Int)]
theorem bst_length (c : List Int) (k s : Nat) : (bst c k s).length = k := by
  induction k generalizing s with
  | zero => rfl
  | succ k ih => simp [bst, ih]
theorem bst_nonneg (c : List Int) (k s : Nat) : ∀ x ∈ bst c k s, 0 ≤ x := by
  induction k generalizing s with
  | zero => simp [bst]
  | succ k ih =>
    intro x hx
    simp only [bst, List.mem_append, List.mem_singleton] at hx
    rcases hx with hx | rfl
    · exact ih _ x hx
    · omega

theorem bst_spec {c : List Int} (h : Up c) (k : Nat) (hk : k ≤ c.length) (s : Nat) (hno : ∀ j, k ≤ j → j < c.length → ¬ Uses c (c.getD j 0) s) :
    worthL (c.take k) (bst c k s) = s ∧ (bst c k s).sum = F c s := by
  have hc := h.ok
  induction k generalizing s with
  | zero =>
    have h0 : s = 0 := by
      by_cases e : s = 0
      · exact e
      · exfalso
        obtain ⟨n, hn, hs, hF⟩ := F_reach hc s (by omega)
        obtain ⟨i, hi, rfl⟩ := Up.idx hn
        exact hno i (by omega) hi ⟨hs, hF.symm⟩
    subst h0
    simp [bst, worthL, F_zero]
  | succ k ih =>
    have hx := h.ge1 k (by omega)
    have hxm : c.getD k 0 ∈ c := Up.mem k (by omega)
    obtain ⟨a, b, d⟩ := uses_spec (c := c) hx s
    obtain ⟨e1, e2⟩ := ih (by omega) (s - uses c (c.getD k 0) s * (c.getD k 0).toNat) (by
      intro j hj hjl hu
      by_cases ej : j = k
      · subst ej; exact d hu
      · exact hno j (by omega) hjl (Uses_downs hc hxm (Up.mem j hjl) s hu))
    rw [take_succ_getD c k (by omega)]
    simp only [bst]
    rw [worthL_snoc _ _ _ _ (by rw [bst_length, List.length_take]; omega), e1, List.sum_append, e2]
    have ee : ((uses c (c.getD k 0) s * (c.getD k 0).toNat : Nat) : Int) = (uses c (c.getD k 0) s : Int) * c.getD k 0 := by
      rw [Int.natCast_mul, Int.toNat_of_nonneg (by omega)]
    simp only [List.sum_cons, List.sum_nil]
    omega

theorem bst_ok {c : List Int} (h : Up c) (s : Nat) : worthL c (bst c c.length s) = s ∧ (bst c c.length s).sum = F c s := by
  have := bst_spec h c.length (Nat.le_refl _) s (fun j hj hjl => by omega)
  rwa [List.take_length] at this
end Go.Proofs.YtomgcfjdmoefgaaDoor.CoinsPlain
