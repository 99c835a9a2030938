/- PLAIN LAW: a byte that was turned is told, in its line (no program in sight). -/
import Derived.Test.YtalnepcbaegaeaaGreatDoorTornPlain
set_option linter.unusedVariables false
set_option linter.unusedSimpArgs false
namespace Go.Proofs.YtalnepcbaegaeaaGreatDoor
open Go Go.RowKit SimPlain BookPlain NumPlain SpPlain LinesPlain

/-! the sum feels every byte -/
theorem sumFrom_end' (l : List UInt8) {i : Nat} (h : l.length ≤ i) : sumFrom l i = 0 := by
  unfold sumFrom
  rw [show l.length - i = 0 by omega]
  rfl
theorem getD_set_ne (l : List UInt8) (o i : Nat) (c : UInt8) (h : i ≠ o) : (l.set o c).getD i 0 = l.getD i 0 := by
  rw [List.getD_eq_getElem?_getD, List.getD_eq_getElem?_getD, List.getElem?_set_ne (by omega)]
theorem getD_set_eq (l : List UInt8) (o : Nat) (c : UInt8) (h : o < l.length) : (l.set o c).getD o 0 = c := by
  rw [List.getD_eq_getElem?_getD, List.getElem?_set_self h]; rfl
theorem sumFrom_past (l : List UInt8) (o : Nat) (c : UInt8) : ∀ n i, n + i = l.length → o < i → sumFrom (l.set o c) i = sumFrom l i
  | 0, i, h, _ => by rw [sumFrom_end' _ (by simp; omega), sumFrom_end' _ (by omega)]
  | n + 1, i, h, ho => by
    rw [sumFrom_step _ (by simp; omega), sumFrom_step l (by omega), sumFrom_past l o c n (i + 1) (by omega) (by omega), getD_set_ne _ _ _ _ (by omega)]
theorem sumFrom_set (l : List UInt8) (o : Nat) (c : UInt8) (ho : o < l.length) : ∀ n i, n + i = l.length → i ≤ o → sumFrom (l.set o c) i + (o + 1) * (l.getD o 0).toNat = sumFrom l i + (o + 1) * c.toNat
  | 0, i, h, h' => by omega
  | n + 1, i, h, h' => by
    rw [sumFrom_step _ (by simp; omega), sumFrom_step l (by omega)]
    rcases Nat.lt_or_ge i o with c1 | c1
    · have ih := sumFrom_set l o c ho n (i + 1) (by omega) (by omega)
      rw [getD_set_ne _ _ _ _ (by omega)]
      omega
    · obtain rfl : i = o := by omega
      rw [sumFrom_past l i c n (i + 1) (by omega) (by omega), getD_set_eq _ _ _ ho]
      omega
theorem gcd_small : ∀ o, o < 200 → Nat.gcd (o + 1) 9973 = 1 := of_decide_eq_true (by kernel_rfl)
theorem no_mult {o d : Nat} (ho : o < 200) (h0 : 0 < d) (h1 : d < 9973) (h : 9973 ∣ (o + 1) * d) : False := by
  have hc : Nat.Coprime 9973 (o + 1) := by
    have := gcd_small o ho
    unfold Nat.Coprime
    rw [Nat.gcd_comm]; exact this
  have h2 : 9973 ∣ d := hc.dvd_of_dvd_mul_left h
  have := Nat.le_of_dvd h0 h2
  omega
theorem sum_turn (l : List UInt8) (o : Nat) (c : UInt8) (ho : o < l.length) (h200 : l.length ≤ 200) (hc : c ≠ l.getD o 0) : sumB (l.set o c) ≠ sumB l := by
  intro e
  rw [← sum_same, ← sum_same] at e
  have h := sumFrom_set l o c ho l.length 0 (by omega) (Nat.zero_le _)
  have hx : (l.getD o 0).toNat < 256 := (l.getD o 0).toNat_lt
  have hy : c.toNat < 256 := c.toNat_lt
  have hne : c.toNat ≠ (l.getD o 0).toNat := fun h => hc (UInt8.toNat_inj.1 h)
  generalize (l.getD o 0).toNat = x at *
  generalize c.toNat = y at *
  generalize sumFrom (l.set o c) 0 = A at *
  generalize sumFrom l 0 = B at *
  rcases Nat.lt_or_ge x y with c1 | c1
  · refine no_mult (o := o) (d := y - x) (by omega) (by omega) (by omega) ?_
    have h3 : A = B + (o + 1) * (y - x) := by
      rw [Nat.mul_sub]
      have := Nat.mul_le_mul_left (o + 1) (Nat.le_of_lt c1)
      omega
    generalize (o + 1) * (y - x) = K at *
    exact Nat.dvd_of_mod_eq_zero (by omega)
  · refine no_mult (o := o) (d := x - y) (by omega) (by omega) (by omega) ?_
    have h3 : B = A + (o + 1) * (x - y) := by
      rw [Nat.mul_sub]
      have := Nat.mul_le_mul_left (o + 1) c1
      omega
    generalize (o + 1) * (x - y) = K at *
    exact Nat.dvd_of_mod_eq_zero (by omega)
/-! a line with a byte turned -/
def bad (r : St × Int) : Prop := r.2 = 2 ∨ r.2 = 7
theorem bad_lastSp (st : St) (b : List UInt8) (a d : List UInt8) (e : b = a ++ 32 :: d) (h : (32 : UInt8) ∉ d) (hk : ∀ n, numP d = some n → n = (sumB a : Nat) → bad (wordsP st (splitSp a))) : bad (lineP st b) := by
  unfold lineP
  rw [e, lastSp_cut a d h]
  simp only
  rw [List.take_left, show a.length + 1 = (a ++ [32]).length by simp, show a ++ 32 :: d = (a ++ [32]) ++ d by simp, List.drop_left]
  cases hn : numP d with
  | none => exact .inl rfl
  | some n =>
    simp only
    by_cases hs : n = (sumB a : Nat)
    · rw [if_pos hs]; exact hk n hn hs
    · rw [if_neg hs]; exact .inr rfl
theorem words_bad (st : St) (ws : List (List UInt8)) (h1 : ws.length ≠ 1) (h3 : ws.length ≠ 3) : bad (wordsP st ws) := by
  unfold wordsP
  rw [if_neg (fun c => h1 c.1), if_neg (fun c => h3 c.1)]
  exact .inl rfl
theorem set_app_left (a b : List UInt8) (o : Nat) (c : UInt8) (h : o < a.length) : (a ++ b).set o c = a.set o c ++ b := by
  rw [List.set_append_left _ _ h]
theorem set_app_right (a b : List UInt8) (o : Nat) (c : UInt8) (h : a.length ≤ o) : (a ++ b).set o c = a ++ b.set (o - a.length) c := by
  rw [List.set_append_right _ _ h]
theorem mem_set_ne {l : List UInt8} {o : Nat} {c x : UInt8} (hx : x ∉ l) (hc : c ≠ x) : x ∉ l.set o c := fun h => by
  rcases List.mem_or_eq_of_mem_set h with h | h
  · exact hx h
  · exact hc h.symm
theorem getD_mid (a b : List UInt8) (x : UInt8) : (a ++ x :: b).getD a.length 0 = x := by
  rw [List.getD_eq_getElem?_getD, List.getElem?_append_right (Nat.le_refl _), Nat.sub_self]; rfl
theorem getD_right (a b : List UInt8) (o : Nat) (h : a.length ≤ o) : (a ++ b).getD o 0 = b.getD (o - a.length) 0 := by
  rw [List.getD_eq_getElem?_getD, List.getElem?_append_right h, List.getD_eq_getElem?_getD]
theorem getD_left (a b : List UInt8) (o : Nat) (h : o < a.length) : (a ++ b).getD o 0 = a.getD o 0 := by
  rw [List.getD_eq_getElem?_getD, List.getElem?_append_left h, List.getD_eq_getElem?_getD]
theorem set_split (d : List UInt8) (o : Nat) (c : UInt8) (h : o < d.length) : d.set o c = d.take o ++ c :: d.drop (o + 1) := by
  rw [List.set_eq_take_append_cons_drop, if_pos h]
theorem not_mem_take {x : UInt8} {l : List UInt8} (h : x ∉ l) (n : Nat) : x ∉ l.take n := fun m => h (List.mem_of_mem_take m)
theorem not_mem_drop {x : UInt8} {l : List UInt8} (h : x ∉ l) (n : Nat) : x ∉ l.drop n := fun m => h (List.mem_of_mem_drop m)
/-- the parts of a command: one word or three -/
def wordsOf : Cmd → List (List UInt8)
  | .push t id => [pushW, Lib.itoa t, Lib.itoa id]
  | .pop => [popB]
theorem cmd_turn (st : St) (s : List UInt8) (hs : s.length ≤ 60) (h1 : splitSp s = [popB] ∧ (32 : UInt8) ∉ s ∨ ∃ t id : List UInt8, s = pushW ++ 32 :: (t ++ 32 :: id) ∧ (32 : UInt8) ∉ t ∧ (32 : UInt8) ∉ id)
    (o : Nat) (c : UInt8) (ho : o < (bodyB s).length) (hc : c ≠ (bodyB s).getD o 0) : bad (lineP st ((bodyB s).set o c)) := by
  have hb : sumB s < 9973 := by unfold sumB; exact sumAt_lt s s.length
  obtain ⟨d, hd⟩ : ∃ d, d = Lib.itoa (sumB s : Nat) := ⟨_, rfl⟩
  have h32 : (32 : UInt8) ∉ d := by rw [hd]; exact itoa_no _ 32 (by decide)
  have eb : bodyB s = s ++ 32 :: d := by rw [hd]; rfl
  rw [eb] at ho hc ⊢
  rcases Nat.lt_trichotomy o s.length with c1 | c1 | c1
  · -- a byte of what was told
    rw [set_app_left _ _ _ _ c1]
    rw [getD_left _ _ _ c1] at hc
    refine bad_lastSp st _ _ d rfl h32 fun n hn e => ?_
    exfalso
    have h2 := numP_itoa (sumB s : Nat) (by omega) (by omega)
    rw [← hd, hn] at h2
    have h3 := Option.some.inj h2
    refine sum_turn s o c c1 (by omega) hc ?_
    omega
  · -- the space ahead of the sum
    subst c1
    rw [getD_mid] at hc
    have e2 : (s ++ 32 :: d).set s.length c = s ++ c :: d := by
      rw [set_app_right _ _ _ _ (Nat.le_refl _), Nat.sub_self]; rfl
    rw [e2]
    rcases h1 with ⟨_, hno⟩ | ⟨t, id, es, ht, hid⟩
    · have hn : (32 : UInt8) ∉ s ++ c :: d := fun m => by
        rcases List.mem_append.1 m with m | m
        · exact hno m
        · rcases List.mem_cons.1 m with m | m
          · exact hc m.symm
          · exact h32 m
      unfold lineP
      rw [lastSp_no _ hn]
      exact .inl rfl
    · refine bad_lastSp st _ (pushW ++ 32 :: t) (id ++ c :: d) (by rw [es]; simp) (fun m => ?_) fun n _ _ => ?_
      · rcases List.mem_append.1 m with m | m
        · exact hid m
        · rcases List.mem_cons.1 m with m | m
          · exact hc m.symm
          · exact h32 m
      · rw [splitSp_cut _ _ (by decide), splitSp_no _ ht]
        exact words_bad st _ (by simp) (by simp)
  · -- a digit of the sum
    have ho2 : o - s.length - 1 < d.length := by simp at ho; omega
    have e2 : (s ++ 32 :: d).set o c = s ++ 32 :: d.set (o - s.length - 1) c := by
      rw [set_app_right _ _ _ _ (by omega), show o - s.length = (o - s.length - 1) + 1 by omega]
      simp
    have hc2 : c ≠ d.getD (o - s.length - 1) 0 := by
      rw [getD_right _ _ _ (by omega), show o - s.length = (o - s.length - 1) + 1 by omega, List.getD_cons_succ] at hc
      simpa using hc
    rw [e2]
    generalize o - s.length - 1 = k at *
    by_cases hsp : c = 32
    · subst hsp
      rw [set_split d k 32 ho2]
      refine bad_lastSp st _ (s ++ 32 :: d.take k) (d.drop (k + 1)) (by simp) (not_mem_drop h32 _) fun n _ _ => ?_
      rcases h1 with ⟨_, hno⟩ | ⟨t, id, es, ht, hid⟩
      · rw [splitSp_cut _ _ hno, splitSp_no _ (not_mem_take h32 _)]
        exact words_bad st _ (by simp) (by simp)
      · rw [es, show pushW ++ 32 :: (t ++ 32 :: id) ++ 32 :: d.take k = pushW ++ 32 :: (t ++ 32 :: (id ++ 32 :: d.take k)) by simp, splitSp_cut _ _ (by decide), splitSp_cut _ _ ht, splitSp_cut _ _ hid, splitSp_no _ (not_mem_take h32 _)]
        exact words_bad st _ (by simp) (by simp)
    · refine bad_lastSp st _ s (d.set k c) rfl (mem_set_ne h32 hsp) fun n hn e => ?_
      exfalso
      obtain ⟨h2, _⟩ := numP_some hn
      rw [e, ← hd] at h2
      have h3 := getD_set_eq d k c ho2
      rw [h2] at h3
      exact hc2 h3.symm
theorem cmd_shape (c : Cmd) : splitSp (cmdB c) = [popB] ∧ (32 : UInt8) ∉ cmdB c ∨ ∃ t id : List UInt8, cmdB c = pushW ++ 32 :: (t ++ 32 :: id) ∧ (32 : UInt8) ∉ t ∧ (32 : UInt8) ∉ id := by
  cases c with
  | pop => exact .inl ⟨rfl, (by decide : (32 : UInt8) ∉ popB)⟩
  | push t id => exact .inr ⟨Lib.itoa t, Lib.itoa id, by simp [cmdB, pushB, pushW], itoa_no _ 32 (by decide), itoa_no _ 32 (by decide)⟩
theorem cmd_len {st : St} {c : Cmd} (h : good st c) : (cmdB c).length ≤ 60 := by
  cases c with
  | push t id =>
    obtain ⟨t0, t1, d0, d1⟩ := okE_of h.1
    exact pushB_len t id t0 t1 d0 d1
  | pop => exact (by decide : popB.length ≤ 60)
theorem turned_cmds : ∀ (cs : List Cmd) (st : St) (i : Nat) (c : UInt8), Goods st cs → i < (cs.flatMap cmdL).length → (cs.flatMap cmdL).getD i 0 ≠ 10 → c ≠ 10 → c ≠ (cs.flatMap cmdL).getD i 0 →
    ∃ r : St × Int, bad r ∧ openP st (linesOf ((cs.flatMap cmdL).set i c)) = (r.1, ((cs.flatMap cmdL).take i).count 10 + 1, r.2) ∧ (linesOf ((cs.flatMap cmdL).set i c)).length = cs.length
  | [], st, i, c, _, h, _, _, _ => by simp at h
  | x :: cs, st, i, c, hg, h, h10, hc, hne => by
    rw [List.flatMap_cons] at h h10 hne ⊢
    rcases Nat.lt_or_ge i (cmdL x).length with hk | hk
    · have hb : i < (bodyB (cmdB x)).length := by
        rw [cmdL_body, List.length_append] at hk
        simp only [List.length_cons, List.length_nil] at hk
        rcases Nat.lt_or_ge i (bodyB (cmdB x)).length with g | g
        · exact g
        · exfalso
          apply h10
          rw [getD_left _ _ _ (by rw [cmdL_body, List.length_append]; simp; omega), cmdL_body, show i = (bodyB (cmdB x)).length by omega]
          exact getD_mid _ [] 10
      rw [getD_left _ _ _ hk, cmdL_body, getD_left _ _ _ hb] at hne
      have hno : (10 : UInt8) ∉ (bodyB (cmdB x)).set i c := mem_set_ne (cmd_no_end x) hc
      have e : (cmdL x ++ cs.flatMap cmdL).set i c = (bodyB (cmdB x)).set i c ++ 10 :: cs.flatMap cmdL := by
        rw [set_app_left _ _ _ _ hk, cmdL_body, set_app_left _ _ _ _ hb]; simp
      have hbad := cmd_turn st (cmdB x) (cmd_len hg.1) (cmd_shape x) i c hb hne
      have hl : linesOf ((cmdL x ++ cs.flatMap cmdL).set i c) = ((bodyB (cmdB x)).set i c ++ [10]) :: linesOf (cs.flatMap cmdL) := by rw [e, linesOf_end _ _ hno]
      have h0 : (lineP st ((bodyB (cmdB x)).set i c)).2 ≠ 0 := by rcases hbad with g | g <;> rw [g] <;> decide
      refine ⟨lineP st ((bodyB (cmdB x)).set i c), hbad, ?_, ?_⟩
      · rw [hl, openP, suffix_end, trim_end, if_pos rfl, if_neg h0]
        have : ((cmdL x ++ cs.flatMap cmdL).take i).count 10 = 0 := by
          rw [List.take_append_of_le_length (by omega), cmdL_body, List.take_append_of_le_length (by omega)]
          exact List.count_eq_zero.2 (fun m => cmd_no_end x (List.mem_of_mem_take m))
        rw [this]
      · have h4 := linesOf_cmds cs [] (by simp)
        rw [List.append_nil] at h4
        rw [hl, h4]; simp [tail1]
    · rw [getD_right _ _ _ hk] at h10 hne
      rw [List.length_append] at h
      obtain ⟨r, hr, h1, h2⟩ := turned_cmds cs (doC st x) (i - (cmdL x).length) c hg.2 (by omega) h10 hc hne
      have e : (cmdL x ++ cs.flatMap cmdL).set i c = bodyB (cmdB x) ++ 10 :: (cs.flatMap cmdL).set (i - (cmdL x).length) c := by
        rw [set_app_right _ _ _ _ hk, cmdL_body]; simp
      have hl : linesOf ((cmdL x ++ cs.flatMap cmdL).set i c) = (bodyB (cmdB x) ++ [10]) :: linesOf ((cs.flatMap cmdL).set (i - (cmdL x).length) c) := by rw [e, linesOf_end _ _ (cmd_no_end x)]
      refine ⟨r, hr, ?_, ?_⟩
      · rw [hl, openP, suffix_end, trim_end, line_good hg.1, if_pos rfl, if_pos rfl, h1]
        have : ((cmdL x ++ cs.flatMap cmdL).take i).count 10 = ((cs.flatMap cmdL).take (i - (cmdL x).length)).count 10 + 1 := by
          rw [List.take_append, List.take_of_length_le hk, List.count_append, cmdL_body, List.count_append, List.count_eq_zero.2 (cmd_no_end x)]
          simp; omega
        rw [this]
      · rw [hl, List.length_cons, h2, List.length_cons]
theorem turned_open (l : List Ev) (i : Nat) (c : UInt8) (hi : i < (toldB l).T.length) (h10 : (toldB l).T.getD i 0 ≠ 10) (hc : c ≠ 10) (hne : c ≠ (toldB l).T.getD i 0) :
    ∃ r : St × Int, bad r ∧ openP st0 (linesOf ((toldB l).T.set i c)) = (r.1, ((toldB l).T.take i).count 10 + 1, r.2) ∧ (linesOf ((toldB l).T.set i c)).length ≤ l.length := by
  obtain ⟨h1, h2⟩ := logOf_run l st0
  have hT : (toldB l).T = (logOf st0 l).flatMap cmdL := by
    rw [show toldB l = runC st0 (logOf st0 l) from h2.symm, runC_T _ _ h1]; rfl
  rw [hT] at hi h10 hne ⊢
  obtain ⟨r, hr, h3, h4⟩ := turned_cmds (logOf st0 l) st0 i c h1 hi h10 hc hne
  exact ⟨r, hr, h3, by rw [h4]; exact logOf_len l st0⟩
end Go.Proofs.YtalnepcbaegaeaaGreatDoor
