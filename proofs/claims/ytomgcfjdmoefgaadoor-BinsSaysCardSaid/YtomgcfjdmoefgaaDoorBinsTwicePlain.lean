/- PLAIN LAW: fewer than twice as many boxes as any other way (no program in sight). -/
import Derived.Test.YtomgcfjdmoefgaaDoorBinsPlain
import Derived.Test.YtomgcfjdmoefgaaDoorPackPlain
namespace TwicePlain
open Go.Proofs.YtomgcfjdmoefgaaDoor.BinsPlain PackPlain

theorem fillS_keep (sizes : List Int) (room : Int) (j : Nat) : ∀ (ord : List Nat) (l out : List Int), j ∉ ord → (fillS sizes room ord l out).getD j 0 = out.getD j 0
  | [], _, _, _ => rfl
  | i :: ord, l, out, h => by
    unfold fillS
    rw [fillS_keep sizes room j ord _ _ (fun h' => h (List.mem_cons_of_mem _ h'))]
    have : i ≠ j := fun e => h (e ▸ List.mem_cons_self ..)
    simp [List.getD_eq_getElem?_getD, List.getElem?_set, this]

/-- the room that is left behind the things of ord, from l on -/
def leftS (sizes : List Int) (room : Int) : List Nat → List Int → List Int
  | [], l => l
  | i :: ord, l => leftS sizes room ord (place room l (sizes.getD i 0))

/-- what holds while things are put: every box's load is what is missing of its room -/
theorem fill_loads (sizes : List Int) (room : Int) (X : List Int) : ∀ (ord pre : List Nat) (l out : List Int),
    fillS sizes room ord l out = X → (pre ++ ord).Nodup → (∀ i ∈ ord, i < out.length) →
    (∀ c : Nat, loadL sizes X c pre = if c < l.length then room - l.getD c 0 else 0) → (∀ i ∈ pre, 0 ≤ X.getD i 0 ∧ X.getD i 0 < l.length) → (∀ c : Nat, c < l.length → (c : Int) ∈ keysL X pre) →
    (∀ c : Nat, loadL sizes X c (pre ++ ord) = if c < (leftS sizes room ord l).length then room - (leftS sizes room ord l).getD c 0 else 0) ∧
    (∀ i ∈ pre ++ ord, 0 ≤ X.getD i 0 ∧ X.getD i 0 < (leftS sizes room ord l).length) ∧ (∀ c : Nat, c < (leftS sizes room ord l).length → (c : Int) ∈ keysL X (pre ++ ord))
  | [], pre, l, out, hX, hn, ho, h1, h2, h3 => by rw [List.append_nil]; exact ⟨h1, h2, h3⟩
  | i :: ord, pre, l, out, hX, hn, ho, h1, h2, h3 => by
    have hni : i ∉ ord := by
      have := (List.nodup_append.1 hn).2.1
      exact (List.nodup_cons.1 this).1
    have hx : X.getD i 0 = (fitIdx l (sizes.getD i 0) : Nat) := by
      rw [← hX]; unfold fillS
      rw [fillS_keep _ _ _ _ _ _ hni]
      simp [List.getD_eq_getElem?_getD, ho i (List.mem_cons_self ..)]
    have hpl := place_length room l (sizes.getD i 0)
    have hpg := place_getD room l (sizes.getD i 0)
    have hle := fitIdx_le l (sizes.getD i 0)
    have e : pre ++ i :: ord = (pre ++ [i]) ++ ord := by simp
    rw [e]
    refine fill_loads sizes room X ord (pre ++ [i]) (place room l (sizes.getD i 0)) _ hX (by rw [← e]; exact hn) (fun j hj => by simpa using ho j (List.mem_cons_of_mem _ hj)) (fun c => ?_) (fun j hj => ?_) (fun c hc => ?_)
    · rw [loadL_snoc, h1, hx, hpl, hpg]
      generalize fitIdx l (sizes.getD i 0) = t at *
      by_cases hc : c = t
      · subst hc
        rw [if_pos rfl, if_pos rfl]
        by_cases ht : c < l.length
        · rw [if_pos ht, if_pos ht, if_pos ht, if_pos ht]; omega
        · rw [if_neg ht, if_neg ht, if_neg ht, if_pos (by omega)]; omega
      · rw [if_neg (show ¬ ((t : Nat) : Int) = (c : Int) by omega), if_neg hc, Int.add_zero]
        by_cases ht : t < l.length
        · rw [if_pos ht]
        · rw [if_neg ht]
          by_cases hcl : c < l.length
          · rw [if_pos hcl, if_pos (by omega)]
          · rw [if_neg hcl, if_neg (by omega)]
    · rw [hpl]
      rcases List.mem_append.1 hj with h | h
      · have := h2 j h; split <;> omega
      · rw [List.mem_singleton] at h; subst h
        rw [hx]; split <;> omega
    · rw [mem_keysL]
      rw [hpl] at hc
      by_cases hct : c = fitIdx l (sizes.getD i 0)
      · exact ⟨i, by simp, by rw [hx, hct]⟩
      · have hcl : c < l.length := by split at hc <;> omega
        obtain ⟨j, hj, e⟩ := (mem_keysL X c pre).1 (h3 c hcl)
        exact ⟨j, List.mem_append_left _ hj, e⟩
theorem leftS_ok (sizes : List Int) (room : Int) : ∀ (ord : List Nat) (l : List Int), LeftOk room l → (∀ i ∈ ord, 1 ≤ sizes.getD i 0 ∧ sizes.getD i 0 ≤ room) → LeftOk room (leftS sizes room ord l)
  | [], _, h, _ => h
  | i :: ord, l, h, hs => by
    unfold leftS
    exact leftS_ok sizes room ord _ (h.place _ (hs i (List.mem_cons_self ..)).1 (hs i (List.mem_cons_self ..)).2) fun j hj => hs j (List.mem_cons_of_mem _ hj)
theorem leftS_length (sizes : List Int) (room : Int) : ∀ (ord : List Nat) (l : List Int), (leftS sizes room ord l).length ≤ l.length + ord.length
  | [], l => by simp [leftS]
  | i :: ord, l => by
    unfold leftS
    have := leftS_length sizes room ord (place room l (sizes.getD i 0))
    have h := place_length room l (sizes.getD i 0)
    rw [List.length_cons]
    split at h <;> omega

/-- what First and Falling tell -/
def fillL (sizes : List Int) (room : Int) (ord : List Nat) : List Int := fillS sizes room ord [] (List.replicate sizes.length 0)
def boxes (sizes : List Int) (room : Int) (ord : List Nat) : Nat := (leftS sizes room ord []).length
theorem keys_perm (X : List Int) (n L : Nat) (h1 : ∀ i, i < n → 0 ≤ X.getD i 0 ∧ X.getD i 0 < L) (h2 : ∀ c : Nat, c < L → ∃ i, i < n ∧ X.getD i 0 = c) : (keysA X n).Perm ((List.range L).map fun c : Nat => (c : Int)) := by
  refine (List.perm_ext_iff_of_nodup (keysL_nodup X _) ?_).2 fun c => ?_
  · exact List.Pairwise.map _ (fun a b h e => h (by omega)) List.nodup_range
  · show c ∈ keysA X n ↔ _
    rw [mem_keysA, List.mem_map]
    constructor
    · rintro ⟨i, hi, e⟩
      have := h1 i hi
      exact ⟨c.toNat, by rw [List.mem_range]; omega, by omega⟩
    · rintro ⟨d, hd, e⟩
      obtain ⟨i, hi, e'⟩ := h2 d (List.mem_range.1 hd)
      exact ⟨i, hi, by omega⟩
theorem keys_count (X : List Int) (n L : Nat) (h1 : ∀ i, i < n → 0 ≤ X.getD i 0 ∧ X.getD i 0 < L) (h2 : ∀ c : Nat, c < L → ∃ i, i < n ∧ X.getD i 0 = c) : (keysA X n).length = L := by
  rw [(keys_perm X n L h1 h2).length_eq]; simp
/-- neighbours' sums -/
theorem pairs_sum (f : Nat → Int) (room : Int) : ∀ L : Nat, (∀ i j, j < i → i < L → room < f i + f j) → (∀ i, i < L → 0 ≤ f i) → 2 ≤ L → (L : Int) * room < 2 * ((List.range L).map f).sum := by
  intro L
  induction L using Nat.strongRecOn with
  | ind L ih =>
    intro h h0 h2
    have hs : ∀ n, ((List.range (n + 1)).map f).sum = ((List.range n).map f).sum + f n := fun n => by rw [List.range_succ]; simp
    rcases Nat.lt_or_ge L 4 with hL | hL
    · have : L = 2 ∨ L = 3 := by omega
      rcases this with rfl | rfl
      · have := h 1 0 (by omega) (by omega)
        rw [hs, hs]; simp; omega
      · have a := h 1 0 (by omega) (by omega)
        have b := h 2 0 (by omega) (by omega)
        have c := h 2 1 (by omega) (by omega)
        rw [hs, hs, hs]; simp; omega
    · obtain ⟨M, rfl⟩ : ∃ M, L = M + 2 := ⟨L - 2, by omega⟩
      have a := ih M (by omega) (fun i j h1 h2 => h i j h1 (by omega)) (fun i hi => h0 i (by omega)) (by omega)
      have b := h (M + 1) M (by omega) (by omega)
      rw [hs, hs]
      have e : (((M + 2 : Nat)) : Int) * room = M * room + 2 * room := by rw [← Int.add_mul]; congr 1
      omega
structure FillFacts (sizes : List Int) (room : Int) (X : List Int) (L : Nat) : Prop where
  packs : Packs sizes room X
  count : (keysA X sizes.length).length = L
  small : L ≤ sizes.length
  zero : L = 0 → sizes.length = 0
  more : 2 ≤ L → (L : Int) * room < 2 * sizes.sum
theorem fill_facts (sizes : List Int) (room : Int) (ord : List Nat) (hp : ord.Perm (List.range sizes.length)) (hs : ∀ n ∈ sizes, 1 ≤ n ∧ n ≤ room) (hn : sizes.length ≤ 16) :
    FillFacts sizes room (fillL sizes room ord) (boxes sizes room ord) := by
  have hnd : ord.Nodup := hp.nodup_iff.2 List.nodup_range
  have hlt : ∀ i ∈ ord, i < sizes.length := fun i hi => List.mem_range.1 (hp.mem_iff.1 hi)
  have hsz : ∀ i ∈ ord, 1 ≤ sizes.getD i 0 ∧ sizes.getD i 0 ≤ room := fun i hi => by
    rw [List.getD_eq_getElem?_getD, List.getElem?_eq_getElem (hlt i hi)]; exact hs _ (List.getElem_mem _)
  obtain ⟨f1, f2, f3⟩ := fill_loads sizes room (fillL sizes room ord) ord [] [] (List.replicate sizes.length 0) rfl (by simpa using hnd) (fun i hi => by simpa using hlt i hi)
    (fun c => by simp [loadL]) (fun i hi => absurd hi (by simp)) (fun c hc => absurd hc (by simp))
  rw [List.nil_append] at f1 f2 f3
  have ok := leftS_ok sizes room ord [] (LeftOk.nil room) hsz
  have hlen := leftS_length sizes room ord []
  have hXl : (fillL sizes room ord).length = sizes.length := by unfold fillL; rw [fillS_length]; simp
  unfold boxes
  generalize fillL sizes room ord = X at f1 f2 f3 hXl ⊢
  generalize leftS sizes room ord [] = F at f1 f2 f3 ok hlen ⊢
  rw [hp.length_eq, List.length_range, List.length_nil] at hlen
  have hpr : ord.Perm (revRange sizes.length) := hp.trans (revRange_perm _).symm
  have g1 : ∀ c : Nat, loadA sizes X sizes.length c = if c < F.length then room - F.getD c 0 else 0 := fun c => by
    unfold loadA; rw [← loadL_perm sizes X c hpr]; exact f1 c
  have g2 : ∀ i, i < sizes.length → 0 ≤ X.getD i 0 ∧ X.getD i 0 < F.length := fun i hi => f2 i (hp.mem_iff.2 (List.mem_range.2 hi))
  have g3 : ∀ c : Nat, c < F.length → ∃ i, i < sizes.length ∧ X.getD i 0 = c := fun c hc => by
    obtain ⟨i, hi, e⟩ := (mem_keysL X c ord).1 (f3 c hc)
    exact ⟨i, hlt i hi, e⟩
  have hcount := keys_count X sizes.length F.length g2 g3
  refine ⟨⟨hXl, fun i hi => ?_, fun c hc => ?_⟩, hcount, by omega, fun h0 => ?_, fun h2 => ?_⟩
  · have := g2 i hi; omega
  · obtain ⟨i, hi, e⟩ := (mem_keysA X _ c).1 hc
    have := g2 i hi
    obtain ⟨d, rfl⟩ : ∃ d : Nat, c = d := ⟨c.toNat, by omega⟩
    rw [g1, if_pos (by omega)]
    have := ok.low d (by omega); omega
  · rcases Nat.eq_zero_or_pos sizes.length with h | h
    · exact h
    · have := g2 0 h; omega
  · have hpm : ((keysA X sizes.length).map fun c => loadA sizes X sizes.length c).sum = sizes.sum := by
      have := loads_sum sizes X (revRange sizes.length)
      rw [perm_sum ((revRange_perm sizes.length).map _), sum_getD] at this
      exact this
    have hp2 := keys_perm X sizes.length F.length g2 g3
    rw [← hpm, perm_sum (hp2.map _), List.map_map]
    refine pairs_sum _ room F.length (fun i j h1 h2 => ?_) (fun i hi => ?_) h2
    · show room < loadA sizes X sizes.length (i : Nat) + loadA sizes X sizes.length (j : Nat)
      rw [g1, g1, if_pos h2, if_pos (by omega)]
      have := ok.two i j h1 h2; omega
    · show 0 ≤ loadA sizes X sizes.length (i : Nat)
      rw [g1, if_pos hi]
      have := ok.high i hi; omega
/-- FEWER THAN TWICE AS MANY -/
theorem twice_law (sizes : List Int) (room : Int) (X : List Int) (L : Nat) (h : FillFacts sizes room X L) (hs : ∀ n ∈ sizes, 1 ≤ n ∧ n ≤ room) (hr : 1 ≤ room) (ins : List Int) (hk : Packs sizes room ins) :
    ((keysA ins sizes.length).length = 0 → L = 0) ∧ (0 < (keysA ins sizes.length).length → L < 2 * (keysA ins sizes.length).length) := by
  have hroom := room_law sizes ins room hk.load
  generalize (keysA ins sizes.length).length = k at hroom
  have hL : L = 0 ∨ 1 ≤ L := by omega
  have hsum : sizes.length ≠ 0 → 0 < sizes.sum := by
    clear hroom hk h
    cases sizes with
    | nil => simp
    | cons a l =>
      intro _
      have ha := hs a (List.mem_cons_self ..)
      have : ∀ l : List Int, (∀ n ∈ l, 1 ≤ n ∧ n ≤ room) → 0 ≤ l.sum := by
        intro l
        induction l with
        | nil => simp
        | cons b l ih =>
          intro h
          have := h b (List.mem_cons_self ..)
          have := ih fun n hn => h n (List.mem_cons_of_mem _ hn)
          rw [List.sum_cons]; omega
      have := this l fun n hn => hs n (List.mem_cons_of_mem _ hn)
      rw [List.sum_cons]; omega
  refine ⟨fun h0 => ?_, fun h0 => ?_⟩
  · subst h0
    have hz : sizes.length = 0 := by
      rcases Nat.eq_zero_or_pos sizes.length with e | e
      · exact e
      · have := hsum (by omega); simp at hroom; omega
    have := h.small; omega
  · rcases Nat.lt_or_ge L 2 with h2 | h2
    · omega
    · have a := h.more h2
      have b : (L : Int) * room < (2 * k) * room := by rw [Int.mul_assoc]; omega
      have := Int.lt_of_mul_lt_mul_right b (by omega)
      omega
end TwicePlain
