/- PLAIN LAW: paging (no program in sight): Belady; Mattson; Sleator and Tarjan; pages asked for the first time. -/
namespace PagePlain

def pg (l : List Int) (t : Nat) : Int := l.getD t 0
theorem drop_at {l : List Int} {t : Nat} (h : t < l.length) : l.drop t = pg l t :: l.drop (t + 1) := by
  rw [List.drop_eq_getElem_cons h, pg, List.getD_eq_getElem?_getD, List.getElem?_eq_getElem h]; rfl

/-! ### lists -/
theorem sub_len : ∀ {a b : List Int}, a.Nodup → (∀ x ∈ a, x ∈ b) → a.length ≤ b.length
  | [], _, _, _ => Nat.zero_le _
  | x :: a, b, hn, hs => by
    rw [List.nodup_cons] at hn
    have hx := hs x (by simp)
    have h1 : (b.erase x).length = b.length - 1 := List.length_erase_of_mem hx
    have h2 := sub_len (b := b.erase x) hn.2 (fun y hy => (List.mem_erase_of_ne (fun c => hn.1 (by rw [← c]; exact hy))).2 (hs y (by simp [hy])))
    have h3 : 0 < b.length := List.length_pos_of_mem hx
    rw [List.length_cons]; omega
theorem sub_cnt (P : Int → Bool) : ∀ {a b : List Int}, a.Nodup → (∀ x ∈ a, x ∈ b) → a.countP P ≤ b.countP P
  | [], _, _, _ => by simp
  | x :: a, b, hn, hs => by
    rw [List.nodup_cons] at hn
    have hx := hs x (by simp)
    have hp := (List.perm_cons_erase hx).countP_eq P
    have h2 := sub_cnt P (b := b.erase x) hn.2 (fun y hy => (List.mem_erase_of_ne (fun c => hn.1 (by rw [← c]; exact hy))).2 (hs y (by simp [hy])))
    rw [hp, List.countP_cons, List.countP_cons]; omega
theorem cnt_set (P : Int → Bool) (v : Int) : ∀ (l : List Int) (k : Nat), k < l.length → (l.set k v).countP P + (if P (l.getD k 0) then 1 else 0) = l.countP P + (if P v then 1 else 0)
  | [], k, h => by simp at h
  | x :: l, 0, _ => by simp only [List.set_cons_zero, List.countP_cons, List.getD_cons_zero]; omega
  | x :: l, k + 1, h => by
    have := cnt_set P v l k (by simpa using h)
    simp only [List.set_cons_succ, List.countP_cons, List.getD_cons_succ]; omega
theorem mem_set {l : List Int} {k : Nat} {v x : Int} (h : x ∈ l.set k v) : x ∈ l ∨ x = v := List.mem_or_eq_of_mem_set h
theorem set_nodup {v : Int} : ∀ {l : List Int} {k : Nat}, l.Nodup → v ∉ l → (l.set k v).Nodup
  | [], _, _, _ => by simp
  | x :: l, 0, hn, hv => by
    rw [List.nodup_cons] at hn
    rw [List.set_cons_zero, List.nodup_cons]
    exact ⟨fun c => hv (by simp [c]), hn.2⟩
  | x :: l, k + 1, hn, hv => by
    rw [List.nodup_cons] at hn
    rw [List.set_cons_succ, List.nodup_cons]
    refine ⟨fun c => ?_, set_nodup hn.2 (fun c => hv (by simp [c]))⟩
    rcases mem_set c with c | c
    · exact hn.1 c
    · exact hv (by simp [c])
theorem set_mem {v : Int} : ∀ {l : List Int} {k : Nat}, k < l.length → v ∈ l.set k v
  | [], _, h => by simp at h
  | _ :: _, 0, _ => by simp
  | x :: l, k + 1, h => by rw [List.set_cons_succ]; exact List.mem_cons_of_mem _ (set_mem (by simpa using h))
theorem set_keep {v y : Int} : ∀ {l : List Int} {k : Nat}, k < l.length → y ∈ l → y ≠ l.getD k 0 → y ∈ l.set k v
  | [], _, h, _, _ => by simp at h
  | x :: l, 0, _, hy, hne => by
    rw [List.set_cons_zero]
    rcases List.mem_cons.1 hy with e | e
    · exact absurd e hne
    · exact List.mem_cons_of_mem _ e
  | x :: l, k + 1, h, hy, hne => by
    rw [List.set_cons_succ]
    rcases List.mem_cons.1 hy with e | e
    · rw [e]; simp
    · exact List.mem_cons_of_mem _ (set_keep (by simpa using h) e hne)
theorem set_gone {v : Int} : ∀ {l : List Int} {k : Nat}, l.Nodup → k < l.length → v ≠ l.getD k 0 → l.getD k 0 ∉ l.set k v
  | [], _, _, h, _ => by simp at h
  | x :: l, 0, hn, _, hv => by
    rw [List.nodup_cons] at hn
    rw [List.set_cons_zero, List.getD_cons_zero, List.mem_cons]
    rintro (c | c)
    · exact hv c.symm
    · exact hn.1 c
  | x :: l, k + 1, hn, h, hv => by
    rw [List.nodup_cons] at hn
    have h' : k < l.length := by simpa using h
    rw [List.set_cons_succ, List.getD_cons_succ, List.mem_cons]
    rintro (c | c)
    · refine hn.1 (c ▸ ?_)
      rw [List.getD_eq_getElem?_getD, List.getElem?_eq_getElem h']; exact List.getElem_mem h'
    · exact set_gone hn.2 h' hv c
theorem getD_in {l : List Int} {k : Nat} (h : k < l.length) : l.getD k 0 ∈ l := by
  rw [List.getD_eq_getElem?_getD, List.getElem?_eq_getElem h]; exact List.getElem_mem h
theorem in_getD {l : List Int} {x : Int} (h : x ∈ l) : ∃ k, k < l.length ∧ l.getD k 0 = x := by
  obtain ⟨k, hk, e⟩ := List.mem_iff_getElem.1 h
  exact ⟨k, hk, by rw [List.getD_eq_getElem?_getD, List.getElem?_eq_getElem hk]; exact e⟩

/-! ### runs -/
/-- pages at hand from ask to ask; V: whom the rule lets go -/
structure Run (f : Nat) (l : List Int) (V : Nat → List Int → Nat → Prop) (H : Nat → List Int) : Prop where
  zero : H 0 = []
  step : ∀ t, t < l.length → (pg l t ∈ H t ∧ H (t + 1) = H t) ∨ (pg l t ∉ H t ∧ (H t).length < f ∧ H (t + 1) = H t ++ [pg l t]) ∨
    (pg l t ∉ H t ∧ (H t).length = f ∧ ∃ k, k < f ∧ V t (H t) k ∧ H (t + 1) = (H t).set k (pg l t))
/-- pages that are brought in when they are asked for -/
structure Dem (f : Nat) (l : List Int) (H : Nat → List Int) : Prop where
  zero : H 0 = []
  nodup : ∀ t, t ≤ l.length → (H t).Nodup
  len : ∀ t, t ≤ l.length → (H t).length ≤ f
  mem : ∀ t, t < l.length → pg l t ∈ H (t + 1)
  sub : ∀ t, t < l.length → ∀ x ∈ H (t + 1), x ∈ H t ∨ x = pg l t
  keep : ∀ t, t < l.length → pg l t ∈ H t ∨ (H t).length < f → ∀ x ∈ H t, x ∈ H (t + 1)
theorem Run.nodup {f l V H} (R : Run f l V H) : ∀ t, t ≤ l.length → (H t).Nodup ∧ (H t).length ≤ f := by
  intro t
  induction t with
  | zero => intro _; rw [R.zero]; simp
  | succ t ih =>
    intro ht
    obtain ⟨i1, i2⟩ := ih (by omega)
    rcases R.step t (by omega) with ⟨_, e⟩ | ⟨h1, h2, e⟩ | ⟨h1, h2, k, _, _, e⟩
    · rw [e]; exact ⟨i1, i2⟩
    · rw [e]
      refine ⟨List.nodup_append.2 ⟨i1, by simp, fun a ha b hb c => h1 ?_⟩, by simp; omega⟩
      rw [List.mem_singleton] at hb
      rw [← hb, ← c]; exact ha
    · rw [e, List.length_set]
      exact ⟨set_nodup i1 h1, i2⟩
theorem Run.dem {f l V H} (R : Run f l V H) : Dem f l H := by
  refine ⟨R.zero, fun t ht => (R.nodup t ht).1, fun t ht => (R.nodup t ht).2, fun t ht => ?_, fun t ht x hx => ?_, fun t ht hk x hx => ?_⟩
  all_goals rcases R.step t ht with ⟨h1, e⟩ | ⟨h1, h2, e⟩ | ⟨h1, h2, k, h3, h4, e⟩
  · rw [e]; exact h1
  · rw [e]; simp
  · rw [e]; exact set_mem (by omega)
  · rw [e] at hx; exact .inl hx
  · rw [e, List.mem_append, List.mem_singleton] at hx; exact hx
  · rw [e] at hx; exact mem_set hx
  · rw [e]; exact hx
  · rw [e]; simp [hx]
  · rcases hk with hk | hk
    · exact absurd hk h1
    · omega
/-- how many of the first t asks were not at hand -/
def mis (l : List Int) (H : Nat → List Int) : Nat → Nat
  | 0 => 0
  | t + 1 => mis l H t + if pg l t ∈ H t then 0 else 1
theorem mis_hit {l H t} (h : pg l t ∈ H t) : mis l H (t + 1) = mis l H t := by simp only [mis]; rw [if_pos h]; rfl
theorem mis_miss {l H t} (h : pg l t ∉ H t) : mis l H (t + 1) = mis l H t + 1 := by simp only [mis]; rw [if_neg h]
theorem mis_le (l : List Int) (H : Nat → List Int) (s : Nat) : ∀ t, s ≤ t → mis l H s ≤ mis l H t := by
  intro t
  induction t with
  | zero => intro h; obtain rfl : s = 0 := by omega
            exact Nat.le_refl _
  | succ t ih =>
    intro h
    rcases Nat.lt_or_ge s (t + 1) with c | c
    · have := ih (by omega)
      simp only [mis]; omega
    · obtain rfl : s = t + 1 := by omega
      exact Nat.le_refl _

/-! ### Belady -/
/-- when a page is asked for next -/
def N (l : List Int) (t : Nat) (x : Int) : Nat := t + (l.drop t).idxOf x
theorem N_at {l : List Int} {t : Nat} (h : t < l.length) : N l t (pg l t) = t := by
  unfold N; rw [drop_at h]; simp
theorem N_step {l : List Int} {t : Nat} {x : Int} (h : t < l.length) (hx : x ≠ pg l t) : N l (t + 1) x = N l t x := by
  unfold N
  have e : (pg l t == x) = false := by rw [beq_eq_false_iff_ne]; exact fun c => hx c.symm
  rw [drop_at h, List.idxOf_cons, e]; simp; omega
theorem N_ge (l : List Int) (t : Nat) (x : Int) : t ≤ N l t x := by unfold N; omega
theorem N_only {l : List Int} {t : Nat} {x : Int} (h : t < l.length) (e : N l t x = t) : x = pg l t := by
  by_cases c : x = pg l t
  · exact c
  · have := N_step h c
    have := N_ge l (t + 1) x
    omega
/-- so many of them are asked for by a time -/
def cn (l : List Int) (t : Nat) (X : List Int) (u : Nat) : Nat := X.countP fun x => decide (N l t x ≤ u)
def one (b : Prop) [Decidable b] : Nat := if b then 1 else 0
theorem one_le (b : Prop) [Decidable b] : one b ≤ 1 := by unfold one; split <;> omega
theorem one_yes {b : Prop} [Decidable b] (h : b) : one b = 1 := by simp [one, h]
theorem one_no {b : Prop} [Decidable b] (h : ¬ b) : one b = 0 := by simp [one, h]
theorem cn_erase {l : List Int} {t : Nat} {X : List Int} {u : Nat} (p : Int) : cn l t X u = cn l t (X.erase p) u + one (p ∈ X ∧ N l t p ≤ u) := by
  by_cases h : p ∈ X
  · have hp := (List.perm_cons_erase h).countP_eq fun x => decide (N l t x ≤ u)
    unfold cn
    rw [hp, List.countP_cons]
    by_cases h2 : N l t p ≤ u
    · simp [one, h, h2]
    · simp [one, h, h2]
  · rw [List.erase_of_not_mem h, one_no (fun c => h c.1)]; rfl
theorem cn_low {l : List Int} {t : Nat} {X : List Int} {u : Nat} (h : u < t) : cn l t X u = 0 := by
  unfold cn
  rw [List.countP_eq_zero]
  intro x _
  have := N_ge l t x
  simp; omega
theorem cn_same {l : List Int} {t : Nat} {X : List Int} {u : Nat} (h : t < l.length) (hX : pg l t ∉ X) : cn l (t + 1) X u = cn l t X u := by
  unfold cn
  apply List.countP_congr
  intro x hx
  rw [N_step h (fun c => hX (c ▸ hx))]
theorem cn_len {l : List Int} {t : Nat} {X : List Int} {u : Nat} : cn l t X u ≤ X.length := List.countP_le_length
theorem nodup_erase {X : List Int} {p : Int} (h : X.Nodup) : p ∉ X.erase p := fun c => by
  rw [h.mem_erase_iff] at c; exact c.1 rfl

/-- whom Far lets go: who is asked for last -/
def VFar (l : List Int) (t : Nat) (h : List Int) (k : Nat) : Prop := ∀ i, i < h.length → N l t (h.getD i 0) ≤ N l t (h.getD k 0)
theorem belady {f g : Nat} {l : List Int} {F G : Nat → List Int} (RF : Run f l (VFar l) F) (DG : Dem g l G) (hg : g ≤ f) :
    ∀ t, t ≤ l.length → mis l F t ≤ mis l G t ∧ ∀ u, mis l F t + cn l t (G t) u ≤ mis l G t + cn l t (F t) u := by
  intro t
  induction t with
  | zero => intro _; simp [mis, RF.zero, DG.zero]
  | succ t ih =>
    intro ht
    have ht' : t < l.length := by omega
    obtain ⟨A, B⟩ := ih (by omega)
    have hn := DG.nodup t (by omega)
    have hn' := DG.nodup (t + 1) ht
    have hl' := DG.len (t + 1) ht
    have hm' := DG.mem t ht'
    have hs' := DG.sub t ht'
    obtain ⟨fn, fl⟩ := RF.nodup t (by omega)
    have RS := RF.step t ht'
    generalize hp : pg l t = p at *
    have hpN : N l t p = t := by rw [← hp]; exact N_at ht'
    -- the other one's side
    have eG : mis l G (t + 1) + one (p ∈ G t) = mis l G t + 1 := by
      by_cases c : p ∈ G t
      · rw [mis_hit (by rw [hp]; exact c), one_yes c]
      · rw [mis_miss (by rw [hp]; exact c), one_no c]
    have hG0 : ∀ u, cn l (t + 1) ((G (t + 1)).erase p) u ≤ cn l t ((G t).erase p) u := fun u => by
      rw [cn_same ht' (by rw [hp]; exact nodup_erase hn')]
      refine sub_cnt _ (hn'.erase _) fun x hx => ?_
      rw [hn'.mem_erase_iff] at hx
      rcases hs' x hx.2 with c | c
      · exact (hn.mem_erase_iff).2 ⟨hx.1, c⟩
      · exact absurd c hx.1
    have oG := fun u => cn_erase (l := l) (t := t) (X := G t) (u := u) p
    have nG := fun u => cn_erase (l := l) (t := t + 1) (X := G (t + 1)) (u := u) p
    have A' : p ∉ F t → mis l F t + 1 ≤ mis l G (t + 1) := fun hpF => by
      by_cases c : p ∈ G t
      · have hB := B t
        have h1 : cn l t (F t) t = 0 := by
          unfold cn
          rw [List.countP_eq_zero]
          intro x hx
          have := N_ge l t x
          simp only [decide_eq_true_eq]
          intro c2
          exact hpF (by rw [← hp, ← N_only ht' (show N l t x = t by omega)]; exact hx)
        have h2 := oG t
        rw [one_yes ⟨c, by omega⟩] at h2
        rw [one_yes c] at eG
        omega
      · rw [one_no c] at eG; omega
    have oneI : ∀ u, t ≤ u → one (p ∈ G t ∧ N l t p ≤ u) = one (p ∈ G t) := fun u hu => by
      by_cases c : p ∈ G t
      · rw [one_yes c, one_yes ⟨c, by omega⟩]
      · rw [one_no c, one_no (fun d => c d.1)]
    have oneJ : ∀ u, one (p ∈ G (t + 1) ∧ N l (t + 1) p ≤ u) = one (N l (t + 1) p ≤ u) := fun u => by
      by_cases c : N l (t + 1) p ≤ u
      · rw [one_yes c, one_yes ⟨hm', c⟩]
      · rw [one_no c, one_no (fun d => c d.2)]
    have low : ∀ u, u < t → cn l (t + 1) (G (t + 1)) u = 0 := fun u hu => cn_low (by omega)
    have uq := one_le (p ∈ G t)
    rcases RS with ⟨h1, e⟩ | ⟨h1, h2, e⟩ | ⟨h1, h2, k, hk, hV, e⟩
    · rw [mis_hit (by rw [hp]; exact h1)]
      have A2 : mis l F t ≤ mis l G (t + 1) := Nat.le_trans A (mis_le l G t (t + 1) (by omega))
      refine ⟨A2, fun u => ?_⟩
      rw [e]
      rcases Nat.lt_or_ge u t with c | c
      · rw [low u c]; omega
      · have hB := B u
        have oF := cn_erase (l := l) (t := t) (X := F t) (u := u) p
        have nF := cn_erase (l := l) (t := t + 1) (X := F t) (u := u) p
        rw [cn_same (X := (F t).erase p) ht' (by rw [hp]; exact nodup_erase fn)] at nF
        rw [one_yes ⟨h1, by omega⟩] at oF
        have e2 : one (p ∈ F t ∧ N l (t + 1) p ≤ u) = one (N l (t + 1) p ≤ u) := by
          by_cases d : N l (t + 1) p ≤ u
          · rw [one_yes d, one_yes ⟨h1, d⟩]
          · rw [one_no d, one_no (fun d2 => d d2.2)]
        rw [e2] at nF
        have := oG u
        rw [oneI u c] at this
        have := nG u
        rw [oneJ u] at this
        have := hG0 u
        omega
    · rw [mis_miss (by rw [hp]; exact h1)]
      refine ⟨A' h1, fun u => ?_⟩
      have hA := A' h1
      rw [e]
      rcases Nat.lt_or_ge u t with c | c
      · rw [low u c]; omega
      · have hB := B u
        have nF : cn l (t + 1) (F t ++ [p]) u = cn l t (F t) u + one (N l (t + 1) p ≤ u) := by
          rw [← cn_same (u := u) ht' (show pg l t ∉ F t by rw [hp]; exact h1)]
          unfold cn one
          rw [List.countP_append, List.countP_singleton]
          simp
        have := oG u
        rw [oneI u c] at this
        have := nG u
        rw [oneJ u] at this
        have := hG0 u
        omega
    · rw [mis_miss (by rw [hp]; exact h1)]
      refine ⟨A' h1, fun u => ?_⟩
      have hA := A' h1
      rw [e]
      rcases Nat.lt_or_ge u t with c | c
      · rw [low u c]; omega
      · have hB := B u
        have hkl : k < (F t).length := by omega
        have hx : (F t).getD k 0 ∈ F t := getD_in hkl
        have hxp : (F t).getD k 0 ≠ p := fun d => h1 (by rw [← d]; exact hx)
        have hset : cn l (t + 1) ((F t).set k p) u + one (N l t ((F t).getD k 0) ≤ u) = cn l t (F t) u + one (N l (t + 1) p ≤ u) := by
          have h3 := cnt_set (fun x => decide (N l (t + 1) x ≤ u)) p (F t) k hkl
          rw [← cn_same (u := u) ht' (show pg l t ∉ F t by rw [hp]; exact h1)]
          rw [N_step ht' (by rw [hp]; exact hxp)] at h3
          unfold cn one
          simpa using h3
        rcases Nat.lt_or_ge u (N l t ((F t).getD k 0)) with d | d
        · rw [one_no (by omega)] at hset
          have := oG u
          rw [oneI u c] at this
          have := nG u
          rw [oneJ u] at this
          have := hG0 u
          omega
        · rw [one_yes d] at hset
          have hall : cn l t (F t) u = f := by
            rw [← h2]
            unfold cn
            rw [List.countP_eq_length]
            intro x hx2
            obtain ⟨i, hi, rfl⟩ := in_getD hx2
            have := hV i hi
            simp only [decide_eq_true_eq]; omega
          have h4 : cn l (t + 1) ((G (t + 1)).erase p) u ≤ g - 1 := by
            refine Nat.le_trans cn_len ?_
            rw [List.length_erase_of_mem hm']; omega
          have h5 : 0 < (G (t + 1)).length := List.length_pos_of_mem hm'
          have := nG u
          rw [oneJ u] at this
          omega

/-! ### when a page was asked for last -/
/-- one more than the place of the last ask; 0 if none -/
def La (l : List Int) : Nat → Int → Nat
  | 0, _ => 0
  | t + 1, x => if pg l t = x then t + 1 else La l t x
theorem La_le (l : List Int) : ∀ t x, La l t x ≤ t
  | 0, _ => Nat.le_refl _
  | t + 1, x => by
    have := La_le l t x
    simp only [La]; split <;> omega
theorem La_at (l : List Int) : ∀ t x, 0 < La l t x → pg l (La l t x - 1) = x
  | 0, _, h => by simp [La] at h
  | t + 1, x, h => by
    simp only [La] at h ⊢
    split
    · rename_i e; simpa using e
    · rename_i e
      rw [if_neg e] at h
      exact La_at l t x h
theorem La_inj {l : List Int} {t : Nat} {x y : Int} (hx : 0 < La l t x) (e : La l t x = La l t y) : x = y := by
  rw [← La_at l t x hx, e, La_at l t y (by omega)]
theorem La_ge {l : List Int} : ∀ {t i : Nat} {x : Int}, i < t → pg l i = x → i + 1 ≤ La l t x
  | 0, _, _, h, _ => by omega
  | t + 1, i, x, h, e => by
    simp only [La]
    split
    · omega
    · rename_i c
      rcases Nat.lt_or_ge i t with d | d
      · exact La_ge d e
      · obtain rfl : i = t := by omega
        exact absurd e c
/-- who was asked for since -/
def Si (l : List Int) : Nat → Int → List Int
  | 0, _ => []
  | t + 1, x => if pg l t = x then [] else if pg l t ∈ Si l t x then Si l t x else pg l t :: Si l t x
theorem Si_nodup (l : List Int) : ∀ t x, (Si l t x).Nodup
  | 0, _ => by simp [Si]
  | t + 1, x => by
    have := Si_nodup l t x
    simp only [Si]
    split
    · simp
    · split
      · exact this
      · rename_i h; exact List.nodup_cons.2 ⟨h, this⟩
theorem Si_mem (l : List Int) : ∀ t x, 0 < La l t x → ∀ y, y ∈ Si l t x ↔ La l t x < La l t y
  | 0, _, h, _ => by simp [La] at h
  | t + 1, x, h, y => by
    have hy := La_le l t y
    simp only [La] at h ⊢
    simp only [Si]
    by_cases e : pg l t = x
    · rw [if_pos e, if_pos e]
      by_cases e2 : pg l t = y
      · rw [if_pos e2]; simp
      · rw [if_neg e2]; simp; omega
    · rw [if_neg e] at h ⊢
      rw [if_neg e]
      have ih := Si_mem l t x h y
      have hx := La_le l t x
      by_cases e2 : pg l t = y
      · subst e2
        rw [if_pos rfl]
        split
        · rename_i h2
          have := (Si_mem l t x h (pg l t)).1 h2
          exact ⟨fun _ => by omega, fun _ => h2⟩
        · simp; omega
      · rw [if_neg e2]
        split
        · exact ih
        · rw [List.mem_cons]
          exact ⟨fun c => by rcases c with c | c; exact absurd c.symm e2; exact ih.1 c, fun c => .inr (ih.2 c)⟩

/-- whom Lru lets go: who was asked for longest ago -/
def VLru (l : List Int) (t : Nat) (h : List Int) (k : Nat) : Prop := ∀ i, i < h.length → La l t (h.getD k 0) ≤ La l t (h.getD i 0)
theorem Dem.asked {f l H} (D : Dem f l H) : ∀ t, t ≤ l.length → ∀ x ∈ H t, 0 < La l t x := by
  intro t
  induction t with
  | zero => intro _ x hx; rw [D.zero] at hx; simp at hx
  | succ t ih =>
    intro ht x hx
    simp only [La]
    split
    · omega
    · rename_i e
      rcases D.sub t (by omega) x hx with c | c
      · exact ih (by omega) x c
      · exact absurd c.symm e
theorem lru_is {f : Nat} {l : List Int} {H : Nat → List Int} (hf : 0 < f) (R : Run f l (VLru l) H) :
    ∀ t, t ≤ l.length → (∀ x, x ∈ H t ↔ 0 < La l t x ∧ (Si l t x).length < f) ∧ ((∀ x, 0 < La l t x → x ∈ H t) ∨ (H t).length = f) := by
  intro t
  induction t with
  | zero => intro _; simp [R.zero, La]
  | succ t ih =>
    intro ht
    have ht' : t < l.length := by omega
    obtain ⟨I1, I2⟩ := ih (by omega)
    obtain ⟨hn, hlen⟩ := R.nodup t (by omega)
    have hask := R.dem.asked t (by omega)
    have hsi := fun x (hx : 0 < La l t x) => Si_mem l t x hx
    -- whoever was asked for since one at hand is at hand
    have hup : ∀ x ∈ H t, ∀ y ∈ Si l t x, y ∈ H t := fun x hx y hy => by
      have h1 := (hsi x (hask x hx) y).1 hy
      refine (I1 y).2 ⟨by omega, ?_⟩
      refine Nat.lt_of_le_of_lt (sub_len (Si_nodup l t y) fun z hz => ?_) ((I1 x).1 hx).2
      have h2 := (hsi y (by omega) z).1 hz
      exact (hsi x (hask x hx) z).2 (by omega)
    have hself : ∀ x ∈ H t, x ∉ Si l t x := fun x hx c => by have := (hsi x (hask x hx) x).1 c; omega
    have RS := R.step t ht'
    generalize hp : pg l t = p at *
    have hLp : La l (t + 1) p = t + 1 := by simp [La, hp]
    have hLo : ∀ x, x ≠ p → La l (t + 1) x = La l t x := fun x hx => by simp only [La]; rw [hp, if_neg (fun c => hx c.symm)]
    have hSp : Si l (t + 1) p = [] := by simp [Si, hp]
    have hSo : ∀ x, x ≠ p → Si l (t + 1) x = if p ∈ Si l t x then Si l t x else p :: Si l t x := fun x hx => by simp only [Si]; rw [hp, if_neg (fun c => hx c.symm)]
    have hge : ∀ x, x ≠ p → (Si l t x).length ≤ (Si l (t + 1) x).length := fun x hx => by
      rw [hSo x hx]; split
      · exact Nat.le_refl _
      · simp
    rcases RS with ⟨h1, e⟩ | ⟨h1, h2, e⟩ | ⟨h1, h2, k, hk, hV, e⟩
    · -- at hand
      refine ⟨fun x => ?_, ?_⟩
      · rw [e]
        by_cases hx : x = p
        · subst hx
          rw [hLp, hSp]
          exact ⟨fun _ => ⟨by omega, by simpa using hf⟩, fun _ => h1⟩
        · rw [hLo x hx]
          refine ⟨fun hxH => ⟨hask x hxH, ?_⟩, fun ⟨c1, c2⟩ => (I1 x).2 ⟨c1, Nat.lt_of_le_of_lt (hge x hx) c2⟩⟩
          rw [hSo x hx]
          split
          · exact ((I1 x).1 hxH).2
          · rename_i hpS
            have := sub_len (a := x :: p :: Si l t x) (b := H t) (List.nodup_cons.2 ⟨by rw [List.mem_cons]; rintro (c | c); exact hx c; exact hself x hxH c, List.nodup_cons.2 ⟨hpS, Si_nodup l t x⟩⟩) (fun y hy => by
              simp only [List.mem_cons] at hy
              rcases hy with rfl | rfl | hy
              · exact hxH
              · exact h1
              · exact hup x hxH y hy)
            simp only [List.length_cons] at this ⊢; omega
      · rw [e]
        rcases I2 with c | c
        · refine .inl fun x hx => ?_
          by_cases hxp : x = p
          · rw [hxp]; exact h1
          · rw [hLo x hxp] at hx; exact c x hx
        · exact .inr c
    · -- room
      have hall : ∀ x, 0 < La l t x → x ∈ H t := by
        rcases I2 with c | c
        · exact c
        · omega
      refine ⟨fun x => ?_, .inl fun x hx => ?_⟩
      · rw [e, List.mem_append, List.mem_singleton]
        by_cases hx : x = p
        · subst hx
          rw [hLp, hSp]
          exact ⟨fun _ => ⟨by omega, by simpa using hf⟩, fun _ => .inr rfl⟩
        · rw [hLo x hx]
          refine ⟨fun hxH => ?_, fun ⟨c1, _⟩ => .inl (hall x c1)⟩
          have hxH : x ∈ H t := by rcases hxH with c | c; exact c; exact absurd c hx
          refine ⟨hask x hxH, ?_⟩
          have := sub_len (a := x :: Si l t x) (b := H t) (List.nodup_cons.2 ⟨hself x hxH, Si_nodup l t x⟩) (fun y hy => by
            rcases List.mem_cons.1 hy with rfl | hy
            · exact hxH
            · exact hup x hxH y hy)
          rw [hSo x hx]
          split
          · simp only [List.length_cons] at this ⊢; omega
          · simp only [List.length_cons] at this ⊢; omega
      · rw [e, List.mem_append, List.mem_singleton]
        by_cases hxp : x = p
        · exact .inr hxp
        · rw [hLo x hxp] at hx; exact .inl (hall x hx)
    · -- one goes
      have hkl : k < (H t).length := by omega
      have hz : (H t).getD k 0 ∈ H t := getD_in hkl
      have hpS : ∀ x ∈ H t, p ∉ Si l t x := fun x hx c => h1 (hup x hx p c)
      refine ⟨fun x => ?_, .inr (by rw [e, List.length_set]; exact h2)⟩
      rw [e]
      by_cases hx : x = p
      · subst hx
        rw [hLp, hSp]
        exact ⟨fun _ => ⟨by omega, by simpa using hf⟩, fun _ => set_mem hkl⟩
      · rw [hLo x hx]
        by_cases hxz : x = (H t).getD k 0
        · have hpz : p ≠ (H t).getD k 0 := fun c => h1 (by rw [c]; exact hz)
          refine ⟨fun c => absurd (hxz ▸ c) (set_gone hn hkl hpz), fun ⟨_, c2⟩ => ?_⟩
          exfalso
          have hxH : x ∈ H t := by rw [hxz]; exact hz
          rw [hSo x hx, if_neg (hpS x hxH)] at c2
          have h3 : ((H t).erase x).length ≤ (Si l t x).length := sub_len (hn.erase _) fun y hy => by
            rw [hn.mem_erase_iff] at hy
            refine (hsi x (hask x hxH) y).2 ?_
            obtain ⟨i, hi, rfl⟩ := in_getD hy.2
            have h4 := hV i hi
            rw [← hxz] at h4
            have h5 : La l t x ≠ La l t ((H t).getD i 0) := fun c => hy.1 (La_inj (hask x hxH) c).symm
            omega
          rw [List.length_erase_of_mem hxH] at h3
          simp only [List.length_cons] at c2
          omega
        · refine ⟨fun c => ?_, fun ⟨c1, c2⟩ => set_keep hkl ((I1 x).2 ⟨c1, Nat.lt_of_le_of_lt (hge x hx) c2⟩) hxz⟩
          have hxH : x ∈ H t := by rcases mem_set c with c | c; exact c; exact absurd c hx
          refine ⟨hask x hxH, ?_⟩
          rw [hSo x hx, if_neg (hpS x hxH)]
          have hzS : (H t).getD k 0 ∉ Si l t x := fun c => by
            have h3 := (hsi x (hask x hxH) _).1 c
            obtain ⟨i, hi, e3⟩ := in_getD hxH
            have h4 := hV i hi
            rw [e3] at h4; omega
          have := sub_len (a := x :: (H t).getD k 0 :: Si l t x) (b := H t) (List.nodup_cons.2 ⟨by rw [List.mem_cons]; rintro (c | c); exact hxz c; exact hself x hxH c, List.nodup_cons.2 ⟨hzS, Si_nodup l t x⟩⟩) (fun y hy => by
            simp only [List.mem_cons] at hy
            rcases hy with rfl | rfl | hy
            · exact hxH
            · exact hz
            · exact hup x hxH y hy)
          simp only [List.length_cons] at this ⊢; omega
/-- Mattson: with more frames what is at hand is at hand -/
theorem stack {f g : Nat} {l : List Int} {H K : Nat → List Int} (hf : 0 < f) (hg : f ≤ g) (R : Run f l (VLru l) H) (Q : Run g l (VLru l) K) {t : Nat} (ht : t ≤ l.length) {x : Int} (h : x ∈ H t) : x ∈ K t := by
  have h1 := ((lru_is hf R t ht).1 x).1 h
  exact ((lru_is (by omega) Q t ht).1 x).2 ⟨h1.1, by omega⟩

/-! ### Sleator and Tarjan -/
/-- in a window: either each miss is of another page, or there are k other pages -/
theorem window {k : Nat} {l : List Int} {H : Nat → List Int} (hk : 0 < k) (R : Run k l (VLru l) H) (s : Nat) :
    ∀ t, s ≤ t → t ≤ l.length → ∃ E : List Int, E.Nodup ∧ (∀ x ∈ E, (∃ i, s ≤ i ∧ i < t ∧ pg l i = x) ∧ (0 < s → x ≠ pg l (s - 1))) ∧ (E.length + mis l H s = mis l H t ∨ k ≤ E.length) := by
  intro t
  induction t with
  | zero => intro h _; obtain rfl : s = 0 := by omega
            exact ⟨[], by simp, by simp, .inl (by simp)⟩
  | succ t ih =>
    intro hst ht
    rcases Nat.lt_or_ge s (t + 1) with c | c
    · obtain ⟨E, e1, e2, e3⟩ := ih (by omega) (by omega)
      have e2' : ∀ x ∈ E, (∃ i, s ≤ i ∧ i < t + 1 ∧ pg l i = x) ∧ (0 < s → x ≠ pg l (s - 1)) := fun x hx => by
        obtain ⟨⟨i, i1, i2, i3⟩, h⟩ := e2 x hx
        exact ⟨⟨i, i1, by omega, i3⟩, h⟩
      by_cases hh : pg l t ∈ H t
      · refine ⟨E, e1, e2', ?_⟩
        rw [mis_hit hh]; exact e3
      · rcases e3 with e3 | e3
        · by_cases hb : pg l t ∈ E ∨ (0 < s ∧ pg l t = pg l (s - 1))
          · -- asked for in the window: many others since
            have hL : s ≤ La l t (pg l t) ∧ 0 < La l t (pg l t) := by
              rcases hb with hb | ⟨hb, hb2⟩
              · obtain ⟨⟨i, i1, i2, i3⟩, _⟩ := e2 _ hb
                have := La_ge (l := l) i2 i3
                omega
              · have := La_ge (l := l) (t := t) (i := s - 1) (x := pg l t) (by omega) hb2.symm
                omega
            have hS : k ≤ (Si l t (pg l t)).length := by
              rcases Nat.lt_or_ge (Si l t (pg l t)).length k with c2 | c2
              · exact absurd (((lru_is hk R t (by omega)).1 _).2 ⟨hL.2, c2⟩) hh
              · exact c2
            have hmem := Si_mem l t (pg l t) hL.2
            have hwin : ∀ x ∈ Si l t (pg l t), ∃ i, s ≤ i ∧ i < t + 1 ∧ pg l i = x := fun x hx => by
              have h1 := (hmem x).1 hx
              have h2 := La_le l t x
              exact ⟨La l t x - 1, by omega, by omega, La_at l t x (by omega)⟩
            have hnd := Si_nodup l t (pg l t)
            have hself : pg l t ∉ Si l t (pg l t) := fun c => by have := (hmem _).1 c; omega
            by_cases hs : 0 < s ∧ pg l t = pg l (s - 1)
            · exact ⟨Si l t (pg l t), hnd, fun x hx => ⟨hwin x hx, fun _ c => hself (by have h := hx; rw [← (hs.2.trans c.symm : pg l t = x)] at h; exact h)⟩, .inr hS⟩
            · refine ⟨(pg l t :: Si l t (pg l t)).erase (pg l (s - 1)), (List.nodup_cons.2 ⟨hself, hnd⟩).erase _, fun x hx => ?_, .inr ?_⟩
              · rw [(List.nodup_cons.2 ⟨hself, hnd⟩).mem_erase_iff] at hx
                refine ⟨?_, fun _ => hx.1⟩
                rcases List.mem_cons.1 hx.2 with h | h
                · exact ⟨t, by omega, by omega, h.symm⟩
                · exact hwin x h
              · have := List.le_length_erase (l := pg l t :: Si l t (pg l t)) (a := pg l (s - 1))
                simp only [List.length_cons] at this
                omega
          · refine ⟨pg l t :: E, List.nodup_cons.2 ⟨fun c => hb (.inl c), e1⟩, fun x hx => ?_, .inl ?_⟩
            · rcases List.mem_cons.1 hx with h | h
              · exact ⟨⟨t, by omega, by omega, h.symm⟩, fun h0 c => hb (.inr ⟨h0, by rw [← h]; exact c⟩)⟩
              · exact e2' x h
            · rw [mis_miss hh, List.length_cons]; omega
        · exact ⟨E, e1, e2', .inr e3⟩
    · obtain rfl : s = t + 1 := by omega
      exact ⟨[], by simp, by simp, .inl (by simp)⟩
/-- whoever brings in what is asked for misses what it has not -/
theorem brings {h : Nat} {l : List Int} {G : Nat → List Int} (D : Dem h l G) (s : Nat) :
    ∀ t, s ≤ t → t ≤ l.length → ∃ M : List Int, M.length + mis l G s = mis l G t ∧ (∀ x ∈ G t, x ∈ G s ∨ x ∈ M) ∧ ∀ i, s ≤ i → i < t → pg l i ∈ G s ∨ pg l i ∈ M := by
  intro t
  induction t with
  | zero => intro h _; obtain rfl : s = 0 := by omega
            exact ⟨[], by simp, fun x hx => .inl hx, fun i _ h => by omega⟩
  | succ t ih =>
    intro hst ht
    rcases Nat.lt_or_ge s (t + 1) with c | c
    · obtain ⟨M, m1, m2, m3⟩ := ih (by omega) (by omega)
      by_cases hh : pg l t ∈ G t
      · refine ⟨M, by rw [mis_hit hh]; exact m1, fun x hx => ?_, fun i i1 i2 => ?_⟩
        · rcases D.sub t (by omega) x hx with h | h
          · exact m2 x h
          · rw [h]; exact m2 _ hh
        · rcases Nat.lt_or_ge i t with h | h
          · exact m3 i i1 h
          · obtain rfl : i = t := by omega
            exact m2 _ hh
      · refine ⟨pg l t :: M, by rw [mis_miss hh, List.length_cons]; omega, fun x hx => ?_, fun i i1 i2 => ?_⟩
        · rcases D.sub t (by omega) x hx with h | h
          · rcases m2 x h with h | h
            · exact .inl h
            · exact .inr (by simp [h])
          · exact .inr (by simp [h])
        · rcases Nat.lt_or_ge i t with h | h
          · rcases m3 i i1 h with h | h
            · exact .inl h
            · exact .inr (by simp [h])
          · obtain rfl : i = t := by omega
            exact .inr (by simp)
    · obtain rfl : s = t + 1 := by omega
      exact ⟨[], by simp, fun x hx => .inl hx, fun i _ h => by omega⟩
theorem ratio {k h : Nat} {l : List Int} {H G : Nat → List Int} (hh : 0 < h) (hk : h ≤ k) (R : Run k l (VLru l) H) (D : Dem h l G) :
    ∀ t, t ≤ l.length → (k - h + 1) * mis l H t ≤ k * mis l G t + (k - h + 1) * h := by
  intro t
  induction t using Nat.strongRecOn with
  | ind t ih =>
    intro ht
    rcases Nat.lt_or_ge (mis l H t) k with c | c
    · -- the first window
      obtain ⟨E, e1, e2, e3⟩ := window (by omega) R 0 t (by omega) ht
      obtain ⟨M, m1, _, m3⟩ := brings D 0 t (by omega) ht
      have hE : mis l H t ≤ E.length := by
        rcases e3 with e3 | e3
        · simp only [mis] at e3; omega
        · omega
      have hM : E.length ≤ M.length := sub_len e1 fun x hx => by
        obtain ⟨⟨i, i1, i2, i3⟩, _⟩ := e2 x hx
        rcases m3 i i1 i2 with h | h
        · rw [D.zero] at h; simp at h
        · rw [← i3]; exact h
      have h1 : mis l H t ≤ mis l G t := by simp only [mis] at m1; omega
      have h2 : (k - h + 1) * mis l H t ≤ k * mis l H t := Nat.mul_le_mul_right _ (by omega)
      have h3 : k * mis l H t ≤ k * mis l G t := Nat.mul_le_mul_left _ h1
      omega
    · -- a window of k misses
      have hex : ∃ s, s < t ∧ mis l H s + k = mis l H t := by
        have : ∀ d, d ≤ mis l H t → ∃ s, s ≤ t ∧ mis l H s + d = mis l H t := by
          intro d
          induction d with
          | zero => intro _; exact ⟨t, Nat.le_refl _, rfl⟩
          | succ d ih2 =>
            intro hd
            obtain ⟨s, s1, s2⟩ := ih2 (by omega)
            have : ∀ s, mis l H s + d = mis l H t → ∃ s', s' ≤ s ∧ mis l H s' + (d + 1) = mis l H t := by
              intro s
              induction s with
              | zero => intro e; simp only [mis] at e; omega
              | succ s ih3 =>
                intro e
                by_cases hm : pg l s ∈ H s
                · rw [mis_hit hm] at e
                  obtain ⟨s', a, b⟩ := ih3 e
                  exact ⟨s', by omega, b⟩
                · rw [mis_miss hm] at e
                  exact ⟨s, by omega, by omega⟩
            obtain ⟨s', a, b⟩ := this s s2
            exact ⟨s', by omega, b⟩
        obtain ⟨s, s1, s2⟩ := this k c
        refine ⟨s, ?_, s2⟩
        rcases Nat.lt_or_ge s t with d | d
        · exact d
        · obtain rfl : s = t := by omega
          omega
      obtain ⟨s, hs, hsm⟩ := hex
      have IH := ih s hs (by omega)
      obtain ⟨E, e1, e2, e3⟩ := window (by omega) R s t (by omega) ht
      obtain ⟨M, m1, _, m3⟩ := brings D s t (by omega) ht
      have hE : k ≤ E.length := by
        rcases e3 with e3 | e3
        · omega
        · exact e3
      have hM : E.length ≤ h - 1 + M.length := by
        rcases Nat.eq_zero_or_pos s with h0 | h0
        · subst h0
          have : E.length ≤ M.length := sub_len e1 fun x hx => by
            obtain ⟨⟨i, i1, i2, i3⟩, _⟩ := e2 x hx
            rcases m3 i i1 i2 with h | h
            · rw [D.zero] at h; simp at h
            · rw [← i3]; exact h
          omega
        · have hmem : pg l (s - 1) ∈ G s := by
            have := D.mem (s - 1) (by omega)
            rwa [show s - 1 + 1 = s by omega] at this
          have hlen := D.len s (by omega)
          have := sub_len (b := (G s).erase (pg l (s - 1)) ++ M) e1 fun x hx => by
            obtain ⟨⟨i, i1, i2, i3⟩, hne⟩ := e2 x hx
            rw [List.mem_append]
            rcases m3 i i1 i2 with h | h
            · left
              rw [(D.nodup s (by omega)).mem_erase_iff]
              rw [i3] at h
              exact ⟨hne h0, h⟩
            · right; rw [← i3]; exact h
          rw [List.length_append, List.length_erase_of_mem hmem] at this
          omega
      have h1 : mis l G s + (k - h + 1) ≤ mis l G t := by omega
      have h2 : k * (mis l G s + (k - h + 1)) ≤ k * mis l G t := Nat.mul_le_mul_left _ h1
      rw [Nat.mul_add] at h2
      have h3 : (k - h + 1) * mis l H t = (k - h + 1) * mis l H s + k * (k - h + 1) := by
        rw [← hsm, Nat.mul_add, Nat.mul_comm k]
      omega

/-! ### the first ask -/
/-- so many pages were asked for -/
def firsts (l : List Int) : Nat → Nat
  | 0 => 0
  | t + 1 => firsts l t + if La l t (pg l t) = 0 then 1 else 0
theorem first_misses {f l H} (D : Dem f l H) {t : Nat} (ht : t < l.length) (h : La l t (pg l t) = 0) : pg l t ∉ H t := fun c => by
  have := D.asked t (by omega) _ c; omega
theorem firsts_le (l : List Int) (s : Nat) : ∀ t, s ≤ t → firsts l s ≤ firsts l t := by
  intro t
  induction t with
  | zero => intro h; obtain rfl : s = 0 := by omega
            exact Nat.le_refl _
  | succ t ih =>
    intro h
    rcases Nat.lt_or_ge s (t + 1) with c | c
    · have := ih (by omega)
      simp only [firsts]; omega
    · obtain rfl : s = t + 1 := by omega
      exact Nat.le_refl _
theorem few_pages {f l H} (D : Dem f l H) (hf : firsts l l.length ≤ f) : ∀ t, t ≤ l.length → mis l H t = firsts l t ∧ (H t).length = firsts l t ∧ ∀ x, 0 < La l t x → x ∈ H t := by
  intro t
  induction t with
  | zero => intro _; simp [mis, firsts, D.zero, La]
  | succ t ih =>
    intro ht
    have ht' : t < l.length := by omega
    obtain ⟨a, b, c⟩ := ih (by omega)
    have hle := firsts_le l (t + 1) l.length ht
    by_cases hn : La l t (pg l t) = 0
    · have hm := first_misses D ht' hn
      have hfi : firsts l (t + 1) = firsts l t + 1 := by simp [firsts, hn]
      have hk := D.keep t ht' (.inr (by omega))
      refine ⟨by rw [mis_miss hm]; omega, ?_, fun x hx => ?_⟩
      · have h1 := sub_len (a := pg l t :: H t) (b := H (t + 1)) (List.nodup_cons.2 ⟨hm, D.nodup t (by omega)⟩) (fun x hx => by
          rcases List.mem_cons.1 hx with h | h
          · rw [h]; exact D.mem t ht'
          · exact hk x h)
        have h2 := sub_len (a := H (t + 1)) (b := pg l t :: H t) (D.nodup (t + 1) ht) (fun x hx => by
          rcases D.sub t ht' x hx with h | h
          · exact List.mem_cons_of_mem _ h
          · rw [h]; simp)
        simp only [List.length_cons] at h1 h2; omega
      · simp only [La] at hx
        split at hx
        · rename_i e; rw [← e]; exact D.mem t ht'
        · exact hk x (c x hx)
    · have hm := c _ (show 0 < La l t (pg l t) by omega)
      have hfi : firsts l (t + 1) = firsts l t := by simp [firsts, hn]
      have hk := D.keep t ht' (.inl hm)
      refine ⟨by rw [mis_hit hm]; omega, ?_, fun x hx => ?_⟩
      · have h1 := sub_len (a := H t) (b := H (t + 1)) (D.nodup t (by omega)) hk
        have h2 := sub_len (a := H (t + 1)) (b := H t) (D.nodup (t + 1) ht) (fun x hx => by
          rcases D.sub t ht' x hx with h | h
          · exact h
          · rw [h]; exact hm)
        omega
      · simp only [La] at hx
        split at hx
        · rename_i e; rw [← e]; exact D.mem t ht'
        · exact hk x (c x hx)
end PagePlain
