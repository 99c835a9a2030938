/- PLAIN: the order of the dear goods is one; a cut and what is half as good are one. -/
import Derived.Test.YtomgcfjdmoefgaaDoorSackHalf
import Derived.Test.YtomgcfjdmoefgaaDoorSackBest
namespace Go.Proofs.YtomgcfjdmoefgaaDoor
open Go Go.RowKit SackPlain
open SortPlain (asInts asInts_length)

theorem sorted_one {R : Nat → Nat → Prop} (asym : ∀ a b, R a b → R b a → False) : ∀ {l l' : List Nat}, l.Perm l' → l.Pairwise R → l'.Pairwise R → l = l'
  | [], l', hp, _, _ => by rw [hp.nil_eq]
  | x :: l, [], hp, _, _ => absurd hp.length_eq (by simp)
  | x :: l, y :: l', hp, h, h' => by
    rw [List.pairwise_cons] at h h'
    have hxy : x = y := by
      have hx := hp.mem_iff.1 (show x ∈ x :: l by simp)
      have hy := hp.mem_iff.2 (show y ∈ y :: l' by simp)
      rcases List.mem_cons.1 hx with c | c
      · exact c
      rcases List.mem_cons.1 hy with d | d
      · exact d.symm
      exact (asym x y (h.1 y d) (h'.1 x c)).elim
    subst hxy
    rw [sorted_one asym (hp.cons_inv) h.2 h'.2]
theorem dearR_asym (l : List Gd) (a b : Nat) (h : dearR l a b) (h' : dearR l b a) : False := by
  unfold dearR dearL at h h'
  omega

/-- a prefix of what is heavy, as far as it fits -/
theorem fit_one {w : Nat → Int} : ∀ {A B A' B' : List Nat} {r : Int}, (∀ i ∈ A ++ B, 0 < w i) → A ++ B = A' ++ B' → S w A ≤ r → S w A' ≤ r → (B = [] ∨ ∃ b C, B = b :: C ∧ r - S w A < w b) → (B' = [] ∨ ∃ b C, B' = b :: C ∧ r - S w A' < w b) → A = A' ∧ B = B'
  | [], B, [], B', r, _, e, _, _, _, _ => ⟨rfl, by simpa using e⟩
  | a :: A, B, a' :: A', B', r, hw, e, h1, h2, h3, h4 => by
    simp only [List.cons_append, List.cons.injEq] at e
    obtain ⟨rfl, e⟩ := e
    rw [S_cons] at h1 h2 h3 h4
    obtain ⟨rfl, rfl⟩ := fit_one (r := r - w a) (fun i hi => hw i (by simp only [List.cons_append, List.mem_cons]; exact .inr hi)) e (by omega) (by omega)
      (h3.imp id fun ⟨b, C, e, h⟩ => ⟨b, C, e, by omega⟩) (h4.imp id fun ⟨b, C, e, h⟩ => ⟨b, C, e, by omega⟩)
    exact ⟨rfl, rfl⟩
  | [], B, a' :: A', B', r, hw, e, h1, h2, h3, _ => by
    exfalso
    simp only [List.nil_append] at e
    rcases h3 with h3 | ⟨b, C, h3, h⟩
    · rw [h3] at e; cases e
    · rw [h3] at e
      simp only [List.cons_append, List.cons.injEq] at e
      obtain ⟨rfl, e⟩ := e
      rw [S_nil] at h
      rw [S_cons] at h2
      have : 0 ≤ S w A' := S_nonneg fun i hi => Int.le_of_lt (hw i (by rw [List.nil_append, h3, e]; simp [hi]))
      omega
  | a :: A, B, [], B', r, hw, e, h1, h2, _, h4 => by
    exfalso
    simp only [List.nil_append] at e
    rcases h4 with h4 | ⟨b, C, h4, h⟩
    · rw [h4] at e; cases e
    · rw [h4] at e
      simp only [List.cons_append, List.cons.injEq] at e
      obtain ⟨rfl, e⟩ := e
      rw [S_nil] at h
      rw [S_cons] at h1
      have : 0 ≤ S w A := S_nonneg fun i hi => Int.le_of_lt (hw i (by simp [hi]))
      omega
theorem cut_one {w v : Nat → Int} {ord : List Nat} {r wh p o wh' p' o' : Int} (hw : ∀ i ∈ ord, 0 < w i) (h : CutRes w v ord r wh p o) (h' : CutRes w v ord r wh' p' o') : wh = wh' ∧ p = p' ∧ o = o' := by
  obtain ⟨A, B, rfl, h1, rfl, h2⟩ := h
  obtain ⟨A', B', e, h1', rfl, h2'⟩ := h'
  obtain ⟨rfl, rfl⟩ := fit_one hw e h1 h1' (by
    rcases h2 with ⟨h, _⟩ | ⟨b, C, h, h3, _⟩
    · exact .inl h
    · exact .inr ⟨b, C, h, h3⟩) (by
    rcases h2' with ⟨h, _⟩ | ⟨b, C, h, h3, _⟩
    · exact .inl h
    · exact .inr ⟨b, C, h, h3⟩)
  refine ⟨rfl, ?_⟩
  rcases h2 with ⟨rfl, rfl, rfl⟩ | ⟨b, C, rfl, _, rfl, rfl⟩
  · rcases h2' with ⟨_, rfl, rfl⟩ | ⟨b, C, h, _⟩
    · exact ⟨rfl, rfl⟩
    · cases h
  · rcases h2' with ⟨h, _⟩ | ⟨b', C', h, _, rfl, rfl⟩
    · cases h
    · obtain ⟨rfl, rfl⟩ := List.cons.inj h
      exact ⟨rfl, rfl⟩
theorem half_one {w v : Nat → Int} {ord : List Nat} {r s s' : Int} (hw : ∀ i ∈ ord, 0 < w i) (h : HalfRes w v ord r s) (h' : HalfRes w v ord r s') : s = s' := by
  obtain ⟨A, B, e, h1, rfl, h2⟩ := h
  obtain ⟨A', B', e', h1', rfl, h2'⟩ := h'
  obtain ⟨rfl, rfl⟩ := fit_one (fun i hi => hw i (by rw [← e] at hi; exact (List.mem_filter.1 hi).1)) (e.symm.trans e') h1 h1' h2 h2'
  rfl
theorem one_one {l : List Gd} {room : Int} {k : Nat} {a b : Int} (h : IsOne l room k a) (h' : IsOne l room k b) : a = b := by
  obtain ⟨h1, h2, h3⟩ := h
  obtain ⟨g1, g2, g3⟩ := h'
  have h4 : a ≤ b := by
    rcases h1 with rfl | ⟨i, hi, hw, rfl⟩
    · exact g2
    · exact g3 i hi hw
  have h5 : b ≤ a := by
    rcases g1 with rfl | ⟨i, hi, hw, rfl⟩
    · exact h2
    · exact h3 i hi hw
  omega

/-! ### the goods that fit -/
/-- their places -/
def fitAt (l : List Gd) (room : Int) (k : Nat) : List Nat := (List.range k).filter fun i => decide (wOf l i ≤ room)
def fitG (l : List Gd) (room : Int) (k : Nat) : List Gd := (fitAt l room k).map fun i => l.getD i g0
theorem fitAt_succ (l : List Gd) (room : Int) (k : Nat) : fitAt l room (k + 1) = fitAt l room k ++ if wOf l k ≤ room then [k] else [] := by
  unfold fitAt
  rw [List.range_succ, List.filter_append]
  congr 1
  by_cases c : wOf l k ≤ room
  · rw [if_pos c]; simp [c]
  · rw [if_neg c]; simp [c]
theorem fitG_yes {l : List Gd} {room : Int} {k : Nat} (h : wOf l k ≤ room) : fitG l room (k + 1) = fitG l room k ++ [l.getD k g0] := by
  unfold fitG
  rw [fitAt_succ, if_pos h, List.map_append]; rfl
theorem fitG_no {l : List Gd} {room : Int} {k : Nat} (h : room < wOf l k) : fitG l room (k + 1) = fitG l room k := by
  unfold fitG
  rw [fitAt_succ, if_neg (by omega), List.append_nil]
theorem fitAt_lt {l : List Gd} {room : Int} {k : Nat} : ∀ i ∈ fitAt l room k, i < k := fun i hi => List.mem_range.1 (List.mem_filter.1 hi).1
theorem fitG_length (l : List Gd) (room : Int) (k : Nat) : (fitG l room k).length ≤ k := by
  have := List.length_filter_le (fun i => decide (wOf l i ≤ room)) (List.range k)
  unfold fitG fitAt
  rw [List.length_map]
  simpa using this
theorem fitG_ok {l : List Gd} (h : Ok l) (room : Int) : Ok (fitG l room l.length) := by
  refine ⟨fun g hg => ?_, by have := fitG_length l room l.length; have := h.short; omega⟩
  obtain ⟨i, hi, rfl⟩ := List.mem_map.1 hg
  exact h.all _ (getD_mem (fitAt_lt i hi))
/-- the place of the j-th -/
def plF (l : List Gd) (room : Int) (j : Nat) : Nat := (fitAt l room l.length).getD j 0
theorem fitG_at {l : List Gd} {room : Int} {j : Nat} (h : j < (fitG l room l.length).length) : (fitG l room l.length).getD j g0 = l.getD (plF l room j) g0 := by
  have h' : j < (fitAt l room l.length).length := by unfold fitG at h; simpa using h
  have e1 : plF l room j = (fitAt l room l.length)[j] := by unfold plF; rw [List.getD_eq_getElem?_getD, List.getElem?_eq_getElem h']; rfl
  rw [e1]
  unfold fitG
  rw [List.getD_eq_getElem?_getD, List.getElem?_map, List.getElem?_eq_getElem h']; rfl
theorem plF_lt {l : List Gd} {room : Int} {i j : Nat} (hi : i < (fitG l room l.length).length) (hj : j < (fitG l room l.length).length) : plF l room i < plF l room j ↔ i < j := by
  have hi' : i < (fitAt l room l.length).length := by unfold fitG at hi; simpa using hi
  have hj' : j < (fitAt l room l.length).length := by unfold fitG at hj; simpa using hj
  have hp : (fitAt l room l.length).Pairwise (· < ·) := List.pairwise_lt_range.filter _
  have hp := List.pairwise_iff_getElem.1 hp
  have e1 : plF l room i = (fitAt l room l.length)[i] := by unfold plF; rw [List.getD_eq_getElem?_getD, List.getElem?_eq_getElem hi']; rfl
  have e2 : plF l room j = (fitAt l room l.length)[j] := by unfold plF; rw [List.getD_eq_getElem?_getD, List.getElem?_eq_getElem hj']; rfl
  rw [e1, e2]
  constructor
  · intro h
    rcases Nat.lt_trichotomy i j with c | c | c
    · exact c
    · subst c; omega
    · have := hp j i hj' hi' c; omega
  · exact fun h => hp i j hi' hj' h
theorem dearR_fit {l : List Gd} {room : Int} {i j : Nat} (hi : i < (fitG l room l.length).length) (hj : j < (fitG l room l.length).length) (h : dearR (fitG l room l.length) i j) : dearR l (plF l room i) (plF l room j) := by
  have e1 := fitG_at hi
  have e2 := fitG_at hj
  have e3 := plF_lt hi hj
  unfold dearR dearL wOf vOf at h ⊢
  rw [e1, e2] at h
  rcases h with h | ⟨h, h'⟩
  · exact .inl h
  · exact .inr ⟨h, e3.2 h'⟩
theorem map_plF (l : List Gd) (room : Int) : (List.range (fitG l room l.length).length).map (plF l room) = fitAt l room l.length := by
  have e : (fitG l room l.length).length = (fitAt l room l.length).length := by unfold fitG; simp
  rw [e]
  apply List.ext_getElem
  · simp
  · intro i h1 h2
    simp only [List.getElem_map, List.getElem_range]
    unfold plF
    rw [List.getD_eq_getElem?_getD, List.getElem?_eq_getElem h2]; rfl
/-- the dear ones of those that fit, as places of the whole list -/
theorem fit_order {l : List Gd} {room : Int} {ord ord' : List Nat} (h : GSort.Falls (dearR l) l.length ord) (h' : GSort.Falls (dearR (fitG l room l.length)) (fitG l room l.length).length ord') : ord'.map (plF l room) = ord.filter fun i => decide (wOf l i ≤ room) := by
  refine sorted_one (dearR_asym l) ?_ ?_ (h.sorted.filter _)
  · refine (h'.perm.map (plF l room)).trans ?_
    rw [map_plF]
    exact (h.perm.filter _).symm
  · rw [List.pairwise_map]
    exact h'.sorted.imp_of_mem fun ha hb hR => dearR_fit (h'.lt _ ha) (h'.lt _ hb) hR
theorem S_map {f g : Nat → Int} {p : Nat → Nat} {A : List Nat} (h : ∀ i ∈ A, f i = g (p i)) : S f A = S g (A.map p) := by
  unfold S
  rw [List.map_map]
  congr 1
  exact List.map_congr_left h
theorem cut_half {l : List Gd} {room wh p o : Int} {ord ord' : List Nat} (h : GSort.Falls (dearR l) l.length ord) (h' : GSort.Falls (dearR (fitG l room l.length)) (fitG l room l.length).length ord')
    (hc : CutRes (wOf (fitG l room l.length)) (vOf (fitG l room l.length)) ord' room wh p o) : HalfRes (wOf l) (vOf l) ord room wh := by
  have e := fit_order h h'
  obtain ⟨A, B, rfl, h1, rfl, h2⟩ := hc
  have hw : ∀ i ∈ A ++ B, wOf (fitG l room l.length) i = wOf l (plF l room i) := fun i hi => by unfold wOf; rw [fitG_at (h'.lt i hi)]
  have hv : ∀ i ∈ A ++ B, vOf (fitG l room l.length) i = vOf l (plF l room i) := fun i hi => by unfold vOf; rw [fitG_at (h'.lt i hi)]
  have sw := S_map (A := A) (fun i hi => hw i (by simp [hi]))
  have sv := S_map (A := A) (fun i hi => hv i (by simp [hi]))
  refine ⟨A.map (plF l room), B.map (plF l room), by rw [← List.map_append]; exact e.symm, by rw [← sw]; exact h1, sv, ?_⟩
  rcases h2 with ⟨rfl, _⟩ | ⟨b, C, rfl, h3, _⟩
  · exact .inl rfl
  · refine .inr ⟨plF l room b, C.map (plF l room), rfl, ?_⟩
    rw [← sw, ← hw b (by simp)]; exact h3
end Go.Proofs.YtomgcfjdmoefgaaDoor
