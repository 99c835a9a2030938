/- PLAIN: pages at hand in the order in which they came, as the document tells it: the same pages (no walk here). -/
import Derived.Test.YtmlnegcffeghcaaDoorPageTold
import Derived.Test.YtmlnegcffeghcaaDoorRefPage1
namespace PagePlain

/-! ### those at hand in the order in which they came -/
def rnxt (f : Nat) (v : Nat → List Int → Nat) (t : Nat) (p : Int) (r : List Int) : List Int :=
  if p ∈ r then r else if r.length = f then r.eraseIdx (v t r) ++ [p] else r ++ [p]
def rhd (f : Nat) (l : List Int) (v : Nat → List Int → Nat) : Nat → List Int
  | 0 => []
  | t + 1 => rnxt f v t (pg l t) (rhd f l v t)
theorem eraseIdx_permI {l : List Int} {k : Nat} (h : k < l.length) : (l.getD k 0 :: l.eraseIdx k).Perm l := by
  induction l generalizing k with
  | nil => simp at h
  | cons x l ih =>
    cases k with
    | zero => simp
    | succ k =>
      rw [List.getD_cons_succ, List.eraseIdx_cons_succ]
      exact (List.Perm.swap x _ _).trans ((ih (by simpa using h)).cons x)
theorem set_permI {l : List Int} {k : Nat} (p : Int) (h : k < l.length) : (l.getD k 0 :: l.set k p).Perm (p :: l) := by
  induction l generalizing k with
  | nil => simp at h
  | cons x l ih =>
    cases k with
    | zero => simp; exact List.Perm.swap p x l
    | succ k =>
      rw [List.getD_cons_succ, List.set_cons_succ]
      exact ((List.Perm.swap x _ _).trans ((ih (by simpa using h)).cons x)).trans (List.Perm.swap p x l)
/-- the same one goes: the same are left -/
theorem gone_perm {h r : List Int} (hp : h.Perm r) {k k' : Nat} (hk : k < h.length) (hk' : k' < r.length) (e : h.getD k 0 = r.getD k' 0) (p : Int) : (h.set k p).Perm (r.eraseIdx k' ++ [p]) := by
  have h1 := set_permI p hk
  have h2 := (eraseIdx_permI hk').symm.cons p
  rw [e] at h1
  have h3 := (h1.trans (hp.cons p)).trans (h2.trans (List.Perm.swap _ _ _))
  exact (h3.cons_inv).trans (List.perm_append_singleton p _).symm
theorem rhd_len (f : Nat) (l : List Int) (v : Nat → List Int → Nat) (hv : ∀ t r, r.length = f → 0 < f → v t r < f) (hf : 0 < f) : ∀ t, (rhd f l v t).length ≤ f := by
  intro t
  induction t with
  | zero => simp [rhd]
  | succ t ih =>
    rw [rhd]; unfold rnxt
    split
    · exact ih
    · split
      · rename_i h2
        have := hv t _ h2 hf
        rw [List.length_append, List.length_eraseIdx, if_pos (by omega)]; simp; omega
      · simp; omega
/-- a run in place and one in order of coming, whose victims are the same -/
theorem same_hands {f : Nat} {l : List Int} {K : Kind} {v : Nat → List Int → Nat} (hf : 0 < f) {V : Nat → List Int → Nat → Prop} (R : Run f l V (hnd f l K))
    (hK : ∀ t, t < l.length → (hnd f l K t).length = f → pg l t ∉ hnd f l K t → (hnd f l K t).Perm (rhd f l v t) →
      K.pick t (hnd f l K t) (snc f l K t) < f ∧ v t (rhd f l v t) < f ∧ (hnd f l K t).getD (K.pick t (hnd f l K t) (snc f l K t)) 0 = (rhd f l v t).getD (v t (rhd f l v t)) 0) :
    ∀ t, t ≤ l.length → (hnd f l K t).Perm (rhd f l v t) := by
  intro t
  induction t with
  | zero => intro _; rw [hnd_zero]; exact List.Perm.refl _
  | succ t ih =>
    intro ht
    have I := ih (by omega)
    rw [hnd_succ, rhd]
    unfold nxt rnxt
    by_cases h1 : pg l t ∈ hnd f l K t
    · rw [if_pos h1, if_pos (I.mem_iff.1 h1)]; exact I
    · rw [if_neg h1, if_neg (fun c => h1 (I.mem_iff.2 c))]
      by_cases h2 : (hnd f l K t).length = f
      · rw [if_pos h2, if_pos (by rw [← I.length_eq]; exact h2)]
        obtain ⟨k1, k2, k3⟩ := hK t (by omega) h2 h1 I
        exact gone_perm I (by omega) (by rw [← I.length_eq]; omega) k3 _
      · rw [if_neg h2, if_neg (by rw [← I.length_eq]; exact h2)]
        exact I.append_right _
theorem miss_same {l : List Int} {H G : Nat → List Int} (h : ∀ t, t < l.length → (H t).Perm (G t)) : missL l H = missL l G := by
  unfold missL
  apply List.map_congr_left
  intro t ht
  rw [decide_eq_decide, (h t (List.mem_range.1 ht)).mem_iff]

/-! ### first in -/
def vFifo (_ : Nat) (_ : List Int) : Nat := 0
/-- the order of coming is the order of since -/
theorem fifo_order (f : Nat) (l : List Int) (hf : 0 < f) : ∀ t, t ≤ l.length → (hnd f l KFifo t).Perm (rhd f l vFifo t) ∧ (rhd f l vFifo t).Pairwise (fun a b => snc f l KFifo t a < snc f l KFifo t b) ∧ ∀ x ∈ rhd f l vFifo t, snc f l KFifo t x < t := by
  intro t
  induction t with
  | zero => intro _; rw [hnd_zero]; simp [rhd]
  | succ t ih =>
    intro ht
    obtain ⟨I, P, L⟩ := ih (by omega)
    rw [hnd_succ, snc_succ, rhd]
    unfold nxt rnxt snx
    by_cases h1 : pg l t ∈ hnd f l KFifo t
    · rw [if_pos h1, if_pos (I.mem_iff.1 h1), if_pos ⟨h1, rfl⟩]
      exact ⟨I, P, fun x hx => by have := L x hx; omega⟩
    · have h1' : pg l t ∉ rhd f l vFifo t := fun c => h1 (I.mem_iff.2 c)
      rw [if_neg h1, if_neg h1', if_neg (show ¬ (pg l t ∈ hnd f l KFifo t ∧ KFifo.note = false) from fun c => h1 c.1)]
      have upd_o : ∀ x ∈ rhd f l vFifo t, upd (snc f l KFifo t) (pg l t) t x = snc f l KFifo t x := fun x hx => by
        unfold upd; rw [if_neg (show ¬ x = pg l t from fun c => h1' (by rw [← c]; exact hx))]
      have upd_p : upd (snc f l KFifo t) (pg l t) t (pg l t) = t := by unfold upd; rw [if_pos rfl]
      -- whatever sub-list is kept, with the new one behind
      have key : ∀ q : List Int, q.Sublist (rhd f l vFifo t) → (q ++ [pg l t]).Pairwise (fun a b => upd (snc f l KFifo t) (pg l t) t a < upd (snc f l KFifo t) (pg l t) t b) ∧ ∀ x ∈ q ++ [pg l t], upd (snc f l KFifo t) (pg l t) t x < ((t + 1 : Nat) : Int) := fun q hq => by
        refine ⟨List.pairwise_append.2 ⟨?_, by simp, fun a ha b hb => ?_⟩, fun x hx => ?_⟩
        · refine (P.sublist hq).imp_of_mem fun {a b} ha hb hab => ?_
          rw [upd_o a (hq.subset ha), upd_o b (hq.subset hb)]; exact hab
        · rw [List.mem_singleton] at hb
          rw [hb, upd_p, upd_o a (hq.subset ha)]
          exact L a (hq.subset ha)
        · rcases List.mem_append.1 hx with c | c
          · rw [upd_o x (hq.subset c)]
            have := L x (hq.subset c); omega
          · rw [List.mem_singleton] at c
            rw [c, upd_p]; omega
      by_cases h2 : (hnd f l KFifo t).length = f
      · have h2' : (rhd f l vFifo t).length = f := by rw [← I.length_eq]; exact h2
        rw [if_pos h2, if_pos h2']
        refine ⟨?_, key _ (List.eraseIdx_sublist _ _)⟩
        have hlo := lo_lt (snc f l KFifo t) (hnd f l KFifo t) _ (Nat.le_refl _) (by omega)
        refine gone_perm I hlo (by show 0 < (rhd f l vFifo t).length; omega) ?_ _
        show (hnd f l KFifo t).getD (lo (snc f l KFifo t) (hnd f l KFifo t) (hnd f l KFifo t).length) 0 = (rhd f l vFifo t).getD 0 0
        -- the least since is the first to come
        obtain ⟨y, ys, e⟩ : ∃ y ys, rhd f l vFifo t = y :: ys := by
          cases hr : rhd f l vFifo t with
          | nil => rw [hr] at h2'; simp at h2'; omega
          | cons y ys => exact ⟨y, ys, rfl⟩
        rw [e, List.getD_cons_zero]
        have hm : (hnd f l KFifo t).getD (lo (snc f l KFifo t) (hnd f l KFifo t) (hnd f l KFifo t).length) 0 ∈ y :: ys := by rw [← e]; exact I.mem_iff.1 (getD_in hlo)
        have hy : y ∈ hnd f l KFifo t := I.mem_iff.2 (by rw [e]; simp)
        obtain ⟨j, hj, ej⟩ := in_getD hy
        have hmin := lo_min (snc f l KFifo t) (hnd f l KFifo t) _ (Nat.le_refl _) j hj
        rw [ej] at hmin
        rw [e] at P
        rcases List.mem_cons.1 hm with c | c
        · exact c
        · have := (List.pairwise_cons.1 P).1 _ c
          omega
      · rw [if_neg h2, if_neg (by rw [← I.length_eq]; exact h2)]
        exact ⟨I.append_right _, key _ (List.Sublist.refl _)⟩
theorem fifo_same (f : Nat) (l : List Int) (hf : 0 < f) : missL l (hnd f l KFifo) = missL l (rhd f l vFifo) := miss_same fun t ht => (fifo_order f l hf t (by omega)).1

/-! ### whom is asked for last -/
theorem nxI_nx {l : List Int} {t : Nat} (h : l.length ≤ 60) (ht : t < l.length) (x y : Int) : (nx l t x < nx l t y ↔ nxI l t x < nxI l t y) ∧ (nx l t x = nx l t y ↔ nxI l t x = nxI l t y) := by
  unfold nx nxI
  have hd : (l.drop t).length = l.length - t := List.length_drop
  by_cases hx : x ∈ l.drop t
  · have hx' := List.idxOf_lt_length_of_mem hx
    rw [if_pos hx, if_pos hx]
    by_cases hy : y ∈ l.drop t
    · rw [if_pos hy, if_pos hy]; omega
    · rw [if_neg hy, if_neg hy]; omega
  · rw [if_neg hx, if_neg hx]
    by_cases hy : y ∈ l.drop t
    · have hy' := List.idxOf_lt_length_of_mem hy
      rw [if_pos hy, if_pos hy]; omega
    · rw [if_neg hy, if_neg hy]; omega
/-- asked for later, or of two never asked for again the lesser -/
def laterP (l : List Int) (t : Nat) (x y : Int) : Prop := nxI l t y < nxI l t x ∨ nxI l t x = nxI l t y ∧ x < y
instance (l t x y) : Decidable (laterP l t x y) := inferInstanceAs (Decidable (_ ∨ _))
def vFarAt (l : List Int) (t : Nat) (r : List Int) : Nat → Nat
  | 0 => 0
  | j + 1 => if laterP l t (r.getD j 0) (r.getD (vFarAt l t r j) 0) then j else vFarAt l t r j
def vFar (l : List Int) (t : Nat) (r : List Int) : Nat := vFarAt l t r r.length
theorem vFarAt_is (l : List Int) (t : Nat) (r : List Int) : ∀ j, j ≤ r.length → 0 < r.length → vFarAt l t r j < r.length ∧ ∀ i, i < j → ¬ laterP l t (r.getD i 0) (r.getD (vFarAt l t r j) 0)
  | 0, _, h0 => ⟨h0, fun i hi => by omega⟩
  | j + 1, hj, h0 => by
    obtain ⟨i1, i2⟩ := vFarAt_is l t r j (by omega) h0
    rw [vFarAt]
    by_cases c : laterP l t (r.getD j 0) (r.getD (vFarAt l t r j) 0)
    · rw [if_pos c]
      refine ⟨by omega, fun i hi => ?_⟩
      rcases Nat.lt_or_ge i j with d | d
      · have := i2 i d
        unfold laterP at this c ⊢; omega
      · obtain rfl : i = j := by omega
        unfold laterP; omega
    · rw [if_neg c]
      refine ⟨i1, fun i hi => ?_⟩
      rcases Nat.lt_or_ge i j with d | d
      · exact i2 i d
      · obtain rfl : i = j := by omega
        exact c
/-- the program's choice -/
theorem fr_best (l : List Int) (t : Nat) (h : List Int) (hl : l.length ≤ 60) (ht : t < l.length) : ∀ i, i ≤ h.length → ∀ j, j < i → ¬ laterP l t (h.getD j 0) (h.getD (fr l t h i).1 0)
  | 0, _, j, hj => by omega
  | i + 1, hi, j, hj => by
    have ih := fr_best l t h hl ht i (by omega)
    have hr := nx_range l t (h.getD i 0)
    simp only [fr]
    rcases (fr_is l t h i (by omega)).1 with ⟨h0, e⟩ | ⟨e1, e2⟩
    · subst h0
      rw [e, if_pos (.inl (by show (-1 : Int) < _; omega))]
      obtain rfl : j = 0 := by omega
      unfold laterP; dsimp only; omega
    · have n1 := nxI_nx hl ht (h.getD i 0) (h.getD (fr l t h i).1 0)
      have n2 := nxI_nx hl ht (h.getD (fr l t h i).1 0) (h.getD i 0)
      rw [e2]
      by_cases c : nx l t (h.getD (fr l t h i).1 0) < nx l t (h.getD i 0) ∨ nx l t (h.getD i 0) = nx l t (h.getD (fr l t h i).1 0) ∧ h.getD i 0 < h.getD (fr l t h i).1 0
      · rw [if_pos c]
        rcases Nat.lt_or_ge j i with d | d
        · have := ih j d
          unfold laterP at this ⊢; dsimp only at this ⊢; omega
        · obtain rfl : j = i := by omega
          unfold laterP; dsimp only; omega
      · rw [if_neg c]
        rcases Nat.lt_or_ge j i with d | d
        · exact ih j d
        · obtain rfl : j = i := by omega
          unfold laterP; omega
theorem far_same (f : Nat) (l : List Int) (hf : 0 < f) (hl : l.length ≤ 60) : missL l (hnd f l (KFar l)) = missL l (rhd f l (vFar l)) := by
  refine miss_same fun t ht => same_hands hf (far_run hf) (fun t ht hlen _ hp => ?_) t (by omega)
  have h1 := fr_lt l t (hnd f l (KFar l) t) _ (Nat.le_refl _) (by omega)
  have hr : (rhd f l (vFar l) t).length = f := by rw [← hp.length_eq]; exact hlen
  obtain ⟨v1, v2⟩ := vFarAt_is l t (rhd f l (vFar l) t) _ (Nat.le_refl _) (by omega)
  have hb := fr_best l t (hnd f l (KFar l) t) hl ht _ (Nat.le_refl _)
  refine ⟨by rw [hlen] at h1; show (fr _ _ _ _).1 < f; rw [hlen]; exact h1, by rw [hr] at v1; show vFarAt _ _ _ _ < f; rw [hr]; exact v1, ?_⟩
  show (hnd f l (KFar l) t).getD (fr l t (hnd f l (KFar l) t) (hnd f l (KFar l) t).length).1 0 = (rhd f l (vFar l) t).getD (vFarAt l t (rhd f l (vFar l) t) (rhd f l (vFar l) t).length) 0
  obtain ⟨j, hj, ej⟩ := in_getD (hp.mem_iff.2 (getD_in v1))
  obtain ⟨i, hi, ei⟩ := in_getD (hp.mem_iff.1 (getD_in h1))
  have c1 := hb j hj
  have c2 := v2 i hi
  rw [ej] at c1
  rw [ei] at c2
  unfold laterP at c1 c2
  omega

/-! ### told -/
/-- how many at hand are less -/
def lessN (r : List Int) (x : Int) : Nat := r.countP fun y => decide (y < x)
theorem lessN_perm {h r : List Int} (hp : h.Perm r) (x : Int) : lessN h x = lessN r x := hp.countP_eq _
theorem lessN_inj {r : List Int} {x y : Int} (hx : x ∈ r) (hy : y ∈ r) (e : lessN r x = lessN r y) : x = y := by
  -- of two that differ the lesser one is counted
  have key : ∀ {x y : Int}, x ∈ r → x < y → lessN r x < lessN r y := fun {x y} hx hlt => by
    unfold lessN
    have hp := List.perm_cons_erase hx
    rw [hp.countP_eq, hp.countP_eq, List.countP_cons, List.countP_cons, if_neg (by simp), if_pos (by simpa using hlt)]
    have := List.countP_mono_left (l := r.erase x) (p := fun z => decide (z < x)) (q := fun z => decide (z < y)) (fun z _ h => by
      simp only [decide_eq_true_eq] at h ⊢; omega)
    omega
  rcases Int.lt_trichotomy x y with c | c | c
  · have := key hx c; omega
  · exact c
  · have := key hy c; omega
end PagePlain
namespace Go.Proofs.YtmlnegcffeghcaaDoor
open PagePlain
/-- of a sorted list without two alike so many are less than the one at k as stand ahead -/
theorem lessN_at {q : List Int} (h : q.Pairwise (· < ·)) : ∀ k, k < q.length → lessN q (q.getD k 0) = k := by
  induction q with
  | nil => intro k hk; simp at hk
  | cons x q ih =>
    intro k hk
    rw [List.pairwise_cons] at h
    cases k with
    | zero =>
      rw [List.getD_cons_zero]
      unfold lessN
      rw [List.countP_eq_zero]
      intro y hy
      rcases List.mem_cons.1 hy with rfl | hy
      · simp
      · have := h.1 y hy
        simp; omega
    | succ k =>
      rw [List.getD_cons_succ]
      have hk' : k < q.length := by simpa using hk
      have := ih h.2 k hk'
      unfold lessN at this ⊢
      rw [List.countP_cons, this, if_pos (by simpa using h.1 _ (PagePlain.getD_in hk'))]
theorem srt_perm (zs : List Int) : (srt zs).Perm zs := by unfold srt; exact List.mergeSort_perm _ _
theorem srt_lt {zs : List Int} (h : zs.Nodup) : (srt zs).Pairwise (· < ·) := by
  have h1 : (srt zs).Pairwise (fun a b => decide (a ≤ b) = true) := by
    unfold srt
    exact List.pairwise_mergeSort (fun a b c h1 h2 => by simp only [decide_eq_true_eq] at *; omega) (fun a b => by simp; omega) zs
  have h2 : (srt zs).Nodup := ((srt_perm zs).nodup_iff).2 h
  rw [List.nodup_iff_pairwise_ne] at h2
  exact (h1.and h2).imp fun {a b} ⟨c1, c2⟩ => by simp only [decide_eq_true_eq] at c1; omega
/-- the document's choice: the last one of which so many are less -/
def vToldAt (n : Nat) (r : List Int) : Nat → Nat
  | 0 => 0
  | j + 1 => if lessN r (r.getD j 0) = n then j else vToldAt n r j
def vTold (picks : List Int) (f : Nat) (t : Nat) (r : List Int) : Nat := vToldAt (toldK picks t f) r r.length
theorem vToldAt_is (n : Nat) (r : List Int) : ∀ j, j ≤ r.length → (∃ i, i < j ∧ lessN r (r.getD i 0) = n) → vToldAt n r j < j ∧ lessN r (r.getD (vToldAt n r j) 0) = n
  | 0, _, ⟨i, hi, _⟩ => by omega
  | j + 1, hj, ⟨i, hi, e⟩ => by
    rw [vToldAt]
    by_cases c : lessN r (r.getD j 0) = n
    · rw [if_pos c]; exact ⟨Nat.lt_succ_self _, c⟩
    · rw [if_neg c]
      have hij : i < j := by
        rcases Nat.lt_or_ge i j with d | d
        · exact d
        · obtain rfl : i = j := by omega
          exact absurd e c
      have := vToldAt_is n r j (by omega) ⟨i, hij, e⟩
      omega
theorem vTold_lt (picks : List Int) {f t : Nat} {r : List Int} (h : r.length = f) (h0 : 0 < f) : vTold picks f t r < f := by
  have key : ∀ j, j ≤ r.length → vToldAt (toldK picks t f) r j < f := by
    intro j
    induction j with
    | zero => intro _; exact h0
    | succ j ih =>
      intro hj
      rw [vToldAt]
      split
      · omega
      · exact ih (by omega)
  exact key _ (Nat.le_refl _)
theorem told_same (f : Nat) (l picks : List Int) (hf : 0 < f) : missL l (hnd f l (KTold picks)) = missL l (rhd f l (vTold picks f)) := by
  refine miss_same fun t ht => same_hands hf (told_run hf) (fun t ht hlen _ hp => ?_) t (by omega)
  have hn := ((told_run (l := l) (picks := picks) hf).nodup t (by omega)).1
  have hk := toldK_lt picks t hf
  have h1 := whom_lt picks t (h := hnd f l (KTold picks) t) (by omega)
  have hr : (rhd f l (vTold picks f) t).length = f := by rw [← hp.length_eq]; exact hlen
  generalize hh : hnd f l (KTold picks) t = h at *
  generalize hrr : rhd f l (vTold picks f) t = r at *
  -- the chosen one
  have hx : h.getD (whom picks t h) 0 = (srt h).getD (toldK picks t f) 0 := by
    unfold whom
    have hin := whom_in picks t (h := h) (by omega)
    have hlt := List.idxOf_lt_length_of_mem hin
    rw [hlen] at hin hlt ⊢
    have hlt' : List.idxOf ((srt h).getD (toldK picks t f) 0) h < h.length := by rw [hlen]; exact hlt
    rw [List.getD_eq_getElem?_getD, List.getElem?_eq_getElem hlt']
    exact List.getElem_idxOf hlt'
  have hless : lessN r (h.getD (whom picks t h) 0) = toldK picks t f := by
    rw [hx, ← lessN_perm hp, ← lessN_perm (srt_perm h)]
    exact lessN_at (srt_lt hn) _ (by rw [srt_length]; omega)
  have hmem : h.getD (whom picks t h) 0 ∈ r := hp.mem_iff.1 (PagePlain.getD_in h1)
  obtain ⟨i, hi, ei⟩ := PagePlain.in_getD hmem
  obtain ⟨v1, v2⟩ := vToldAt_is (toldK picks t f) r _ (Nat.le_refl _) ⟨i, hi, by rw [ei]; exact hless⟩
  refine ⟨by show whom picks t h < f; omega, by show vToldAt _ _ _ < f; omega, ?_⟩
  exact lessN_inj hmem (PagePlain.getD_in v1) (hless.trans v2.symm)

/-! ### longest ago -/
/-- a page is missing if it was never asked for, or if since then as many others were as there are frames -/
def lruMiss (f : Nat) (l : List Int) (t : Nat) : Bool := decide (La l t (pg l t) = 0) || decide (f ≤ (Si l t (pg l t)).length)
theorem lru_same (f : Nat) (l : List Int) (hf : 0 < f) : missL l (hnd f l KLru) = (List.range l.length).map (lruMiss f l) := by
  unfold missL
  apply List.map_congr_left
  intro t ht
  have h := (lru_is (l := l) hf (lru_run hf) t (by have := List.mem_range.1 ht; omega)).1 (pg l t)
  unfold lruMiss
  rw [Bool.eq_iff_iff]
  simp only [decide_eq_true_eq, Bool.or_eq_true]
  rw [h]
  omega
/-- those who were asked for between j and t, gathered -/
theorem since_len {l : List Int} {t j : Nat} (hj : j < t) (e : pg l j = pg l t) (hno : ∀ i, j < i → i < t → pg l i ≠ pg l t) {o : List Int} (ho : o.Nodup) (hm : ∀ y, y ∈ o ↔ ∃ i, j < i ∧ i < t ∧ pg l i = y) :
    0 < La l t (pg l t) ∧ (Si l t (pg l t)).length = o.length := by
  have h1 := La_ge hj e
  have h2 := La_le l t (pg l t)
  have h3 := La_at l t (pg l t) (by omega)
  have hL : La l t (pg l t) = j + 1 := by
    rcases Nat.lt_or_ge (j + 1) (La l t (pg l t)) with c | c
    · exact absurd h3 (hno _ (by omega) (by omega))
    · omega
  have hS := Si_mem l t (pg l t) (by omega)
  refine ⟨by omega, Nat.le_antisymm (sub_len (Si_nodup l t _) fun y hy => ?_) (sub_len ho fun y hy => ?_)⟩
  · have h4 := (hS y).1 hy
    have h5 := La_at l t y (by omega)
    have h6 := La_le l t y
    exact (hm y).2 ⟨La l t y - 1, by omega, by omega, h5⟩
  · obtain ⟨i, i1, i2, i3⟩ := (hm y).1 hy
    have := La_ge i2 i3
    exact (hS y).2 (by omega)
theorem never_La {l : List Int} {t : Nat} (hno : ∀ i, i < t → pg l i ≠ pg l t) : La l t (pg l t) = 0 := by
  rcases Nat.eq_zero_or_pos (La l t (pg l t)) with h | h
  · exact h
  · have h1 := La_le l t (pg l t)
    exact absurd (La_at l t _ h) (hno _ (by omega))
end Go.Proofs.YtmlnegcffeghcaaDoor
