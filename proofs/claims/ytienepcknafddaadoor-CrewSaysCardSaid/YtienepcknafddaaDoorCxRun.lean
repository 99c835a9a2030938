/- WALK: CrewSays in company, from its call to its end. -/
import Derived.Test.YtienepcknafddaaDoorCxSays
set_option linter.unusedVariables false
set_option linter.unusedSimpArgs false
namespace Go.Proofs.YtienepcknafddaaDoor
open Go Go.RowKit Go.Conc Co Cr SimPlain HeapPlain SymPlain
open Go.ConcM

section
variable {Post : Value → World → Prop} {r : Rts} {w : World} {n0 : Nat} {W0 : Past} {A : Option Addr} {b off cap : Nat} {l : List Ev} {z : Int}
set_option maxRecDepth 100000 in
set_option maxHeartbeats 8000000 in
/-- what is wrong with the items -/
theorem says_head (hA : ArgF W0 A b off cap l) (gw : Tryd.prog.globals.size ≤ n0) (hold : Hold n0 W0 r w)
    (cont : ∀ (t : Array Value) (r : Rts) (w : World), Hold n0 W0 r w → t.size = 39 → t[0]? = some (.slice A l.length cap) → t[1]? = some (.int .i64 z) → t[5]? = some (.int .i64 (chkI l)) → ME Tryd.prog wgL.tWg Post (.chs []) 0 r (G ((base 3).at ⟨t, []⟩ [.code bodyZ2]) []) w) :
    ME Tryd.prog wgL.tWg Post (.chs []) 0 r (G ((base 3).at ⟨#[.slice A l.length cap, .int .i64 z, undef, undef, undef, undef, undef, undef, undef, undef, undef, undef, undef, undef, undef, undef, undef, undef, undef, undef, undef, undef, undef, undef, undef, undef, undef, undef, undef, undef, undef, undef, undef, undef, undef, undef, undef, undef, undef], []⟩ [.code bodyZ]) []) w := by
  rw [bodyZ_eq]
  simp only [rz0, bodyZ, Option.getD_some, Tryd.f3]
  have hF : KW r ((Sg.chs []).iv wgL.tWg) w w := ⟨Rely.refl _ _, trivial⟩
  refine me_run (m := 9) rfl trivial ?_
  repeat w_go kw_rely
  refine Goes.stop (fun w₁ h₁ => ?_)
  replace hF := kw_rely hF h₁
  replace hold := hold.rely hF.1
  clear h₁ hF
  have FQ := hA.cq gw hold
  let D : Nat → Prop := fun x => A = some ⟨x, off, none⟩
  let S : Nat → Prop := fun b => ¬ RdB r b
  let Mm : Nat → Prop := fun _ => False
  have hg : Tryd.prog.globals.size ≤ w₁.heap.size := FQ.gw
  have hd : A = some ⟨b, off, none⟩ → (gr Tryd.prog w₁ D S Mm).dom b := fun e => ⟨e, (FQ.rb e).2.2, (FQ.rb e).2.1⟩
  have hA' : A = some ⟨b, off, none⟩ ∨ A = none := hA.hA.imp id (·.1)
  rw [codeZ1_eq]
  refine me_str (f := 3) cw_funs ⟨_, rfl⟩ (by decide) (by kernel_rfl) hg D S Mm cov_S (RelZ1 A cap l z) (relZ1_carried hA' hd rfl) [] (fun T => ?_) fun t' ρ r' W' hR hext hway _ => ?_
  · have hz : VR (· ∈ cwL) (gr Tryd.prog w₁ D S Mm) (.int .i64 z) (.int .i64 z) := .int _ _
    simp only [mrow, List.map_toArray, List.map_cons, List.map_nil, mask_eq (sliceA_vr FQ (D := D) (S := S) (M := Mm) (nn := l.length) fun e => e), mask_eq hz]
    exact z1_wp l A cap z _ _ _ _ _ _ _ _ _ _ _ _ _ _ _ _ _ _ _ _ _ _ _ _ _ _ _ _ _ _ _ _ _ _ _ _ _ _ (evA_ghost FQ) hA.big
  · change ME Tryd.prog wgL.tWg Post (.chs []) 0 r' (G ((base 3).at ⟨t', []⟩ [.code bodyZ2]) []) W'
    have hrl : Rely r w₁ W' := hway.rely fun b i hb hm => hm.1
    obtain ⟨hs, t0, t1, t5⟩ := hR
    exact cont t' r' W' (Hold.mono (hold.rely hrl) hway.rd (hway.sub hold.sub)) hs t0 t1 t5
set_option maxRecDepth 100000 in
set_option maxHeartbeats 8000000 in
/-- .. and with the hands -/
theorem says_mid {t : Array Value} (hold : Hold n0 W0 r w) (hs : t.size = 39) (t0 : t[0]? = some (.slice A l.length cap)) (t1 : t[1]? = some (.int .i64 z)) (t5 : t[5]? = some (.int .i64 (chkI l)))
    (cont : ∀ (t : Array Value) (w : World), Hold n0 W0 r w → t.size = 39 → t[0]? = some (.slice A l.length cap) → t[1]? = some (.int .i64 z) → t[5]? = some (.int .i64 (chkZ l z)) → t[6]? = some (.slice none 0 0) → ME Tryd.prog wgL.tWg Post (.chs []) 0 r (G ((base 3).at ⟨t, []⟩ [.code bodyZ5]) []) w) :
    ME Tryd.prog wgL.tWg Post (.chs []) 0 r (G ((base 3).at ⟨t, []⟩ [.code bodyZ2]) []) w := by
  obtain ⟨x0, x1, x2, x3, x4, x5, x6, x7, x8, x9, x10, x11, x12, x13, x14, x15, x16, x17, x18, x19, x20, x21, x22, x23, x24, x25, x26, x27, x28, x29, x30, x31, x32, x33, x34, x35, x36, x37, x38, rfl⟩ := arr39 hs
  obtain rfl : x0 = _ := by simpa using t0
  obtain rfl : x1 = _ := by simpa using t1
  obtain rfl : x5 = _ := by simpa using t5
  clear hs t0 t1 t5
  rw [bodyZ2_eq]
  simp only [rz2, rz3, rz4, bodyZ4, bodyZ2, bodyZ1, bodyZ, Option.getD_some, Tryd.f3]
  generalize hN : l.length = N at *
  generalize hK : chkI l = kk at *
  generalize hZ : chkZ l z = kz at *
  have HK : Hid (kz = if kk = 0 ∧ (z < 1 ∨ 6 < z) then 1 else kk) := Lib.hid (by rw [← hZ, ← hK]; rfl)
  clear hN hK hZ
  have hF : KW r ((Sg.chs []).iv wgL.tWg) w w := ⟨Rely.refl _ _, trivial⟩
  rcases Decidable.em (kk = 0) with hk | hk
  · subst hk
    rcases Int.lt_or_le z 1 with hz | hz
    · obtain rfl : kz = 1 := by rw [HK.out, if_pos ⟨rfl, .inl hz⟩]
      clear HK
      have d1 : decide (z < 1) = true := decide_eq_true hz
      refine me_run (m := 40) rfl trivial ?_
      repeat w_go kw_rely
      refine Goes.stop (fun w₁ h₁ => ?_)
      replace hF := kw_rely hF h₁
      refine cont _ _ (hold.rely hF.1) ?_ ?_ ?_ ?_ ?_ <;> rfl
    · rcases Int.lt_or_le 6 z with h6 | h6
      · obtain rfl : kz = 1 := by rw [HK.out, if_pos ⟨rfl, .inr h6⟩]
        clear HK
        have d1 : decide (z < 1) = false := decide_eq_false (by omega)
        have d6 : decide (6 < z) = true := decide_eq_true h6
        refine me_run (m := 40) rfl trivial ?_
        repeat w_go kw_rely
        refine Goes.stop (fun w₁ h₁ => ?_)
        replace hF := kw_rely hF h₁
        refine cont _ _ (hold.rely hF.1) ?_ ?_ ?_ ?_ ?_ <;> rfl
      · obtain rfl : kz = 0 := by rw [HK.out, if_neg (by omega)]
        clear HK
        have d1 : decide (z < 1) = false := decide_eq_false (by omega)
        have d6 : decide (6 < z) = false := decide_eq_false (by omega)
        refine me_run (m := 40) rfl trivial ?_
        repeat w_go kw_rely
        refine Goes.stop (fun w₁ h₁ => ?_)
        replace hF := kw_rely hF h₁
        refine cont _ _ (hold.rely hF.1) ?_ ?_ ?_ ?_ ?_ <;> rfl
  · obtain rfl : kz = kk := by rw [HK.out, if_neg (fun h => hk h.1)]
    clear HK
    have hk1 : (kz == 0) = false := by simpa using hk
    have hk2 : decide (kz = 0) = false := by simpa using hk
    refine me_run (m := 40) rfl trivial ?_
    repeat w_go kw_rely
    refine Goes.stop (fun w₁ h₁ => ?_)
    replace hF := kw_rely hF h₁
    refine cont _ _ (hold.rely hF.1) ?_ ?_ ?_ ?_ ?_ <;> rfl
set_option maxRecDepth 100000 in
set_option maxHeartbeats 8000000 in
/-- what is wanted -/
theorem says_want {t : Array Value} (hA : ArgF W0 A b off cap l) (gw : Tryd.prog.globals.size ≤ n0) (hbef : l.Pairwise Bef) (hold : Hold n0 W0 r w) (hs : t.size = 39) (t0 : t[0]? = some (.slice A l.length cap)) (t1 : t[1]? = some (.int .i64 z)) (t5 : t[5]? = some (.int .i64 (chkZ l z))) (t6 : t[6]? = some (.slice none 0 0))
    (cont : ∀ (t : Array Value) (r : Rts) (w : World) (g : Option Addr) (c : Nat) (S : List Ev), Hold n0 W0 r w → PN r w g c S → (chkZ l z = 0 → S.Perm l ∧ S.Pairwise SimPlain.Lt) → (chkZ l z ≠ 0 → S = []) → t.size = 39 → t[0]? = some (.slice A l.length cap) → t[1]? = some (.int .i64 z) → t[5]? = some (.int .i64 (chkZ l z)) → t[6]? = some (.slice g S.length c) → ME Tryd.prog wgL.tWg Post (.chs []) 0 r (G ((base 3).at ⟨t, []⟩ [.code bodyZ7]) []) w) :
    ME Tryd.prog wgL.tWg Post (.chs []) 0 r (G ((base 3).at ⟨t, []⟩ [.code bodyZ5]) []) w := by
  obtain ⟨x0, x1, x2, x3, x4, x5, x6, x7, x8, x9, x10, x11, x12, x13, x14, x15, x16, x17, x18, x19, x20, x21, x22, x23, x24, x25, x26, x27, x28, x29, x30, x31, x32, x33, x34, x35, x36, x37, x38, rfl⟩ := arr39 hs
  obtain rfl : x0 = _ := by simpa using t0
  obtain rfl : x1 = _ := by simpa using t1
  obtain rfl : x5 = _ := by simpa using t5
  obtain rfl : x6 = _ := by simpa using t6
  clear hs t0 t1 t5 t6
  rw [bodyZ5_eq]
  simp only [rz5, bodyZ5, bodyZ4, bodyZ2, bodyZ1, bodyZ, Option.getD_some, Tryd.f3]
  have hF : KW r ((Sg.chs []).iv wgL.tWg) w w := ⟨Rely.refl _ _, trivial⟩
  rcases Decidable.em (chkZ l z = 0) with hk | hk
  · rw [hk] at cont ⊢
    have H60 : Hid (l.length ≤ 60) := Lib.hid (by
      have e : chkI l = 0 := by
        unfold chkZ at hk
        split at hk
        · cases hk
        · exact hk
      exact (chkI_fine e).1)
    clear hk
    refine me_run (m := 40) rfl trivial ?_
    repeat w_go kw_rely
    refine Goes.stop (fun w₁ h₁ => ?_)
    replace hF := kw_rely hF h₁
    replace hold := hold.rely hF.1
    clear h₁ hF
    have FQ := hA.cq gw hold
    let D : Nat → Prop := fun x => A = some ⟨x, off, none⟩
    let S : Nat → Prop := fun b => ¬ RdB r b
    let Mm : Nat → Prop := fun _ => False
    have hg : Tryd.prog.globals.size ≤ w₁.heap.size := FQ.gw
    have hd : A = some ⟨b, off, none⟩ → (gr Tryd.prog w₁ D S Mm).dom b := fun e => ⟨e, (FQ.rb e).2.2, (FQ.rb e).2.1⟩
    have hA' : A = some ⟨b, off, none⟩ ∨ A = none := hA.hA.imp id (·.1)
    rw [codeZ6_eq]
    refine me_str (f := 3) cw_funs ⟨_, rfl⟩ (by decide) (by kernel_rfl) hg D S Mm cov_S (RelZ6 A cap l z 0) (relZ6_carried hA' hd rfl) [] (fun T => ?_) fun t' ρ r' W' hR hext hway hgh => ?_
    · have hz : VR (· ∈ cwL) (gr Tryd.prog w₁ D S Mm) (.int .i64 z) (.int .i64 z) := .int _ _
      have hz0 : VR (· ∈ cwL) (gr Tryd.prog w₁ D S Mm) (.int .i64 0) (.int .i64 0) := .int _ _
      simp only [mrow, List.map_toArray, List.map_cons, List.map_nil, mask_eq (sliceA_vr FQ (D := D) (S := S) (M := Mm) (nn := l.length) fun e => e), mask_eq hz, mask_eq hz0]
      exact z6_wp l A cap z 0 _ _ _ _ _ _ _ _ _ _ _ _ _ _ _ _ _ _ _ _ _ _ _ _ _ _ _ _ _ _ _ _ _ _ _ _ _ (evA_ghost FQ) H60.out hbef
    · change ME Tryd.prog wgL.tWg Post (.chs []) 0 r' (G ((base 3).at ⟨t', []⟩ [.code bodyZ7]) []) W'
      have hrl : Rely r w₁ W' := hway.rely fun b i hb hm => hm.1
      obtain ⟨tg, ws, ht, hw, hsz, e0, e1, e5, g0, c, So, hpb, e6, k1, k2⟩ := hgh
      obtain ⟨v6, f6, r6⟩ := ht.get e6
      obtain ⟨g, rfl, hPA⟩ := pa_carry hway (fun _ => rfl) (fun b hb => hb.2.1) hg hw hpb r6
      obtain ⟨hs, t0, t1, t5, _⟩ := hR
      exact cont t' r' W' g c So (Hold.mono (hold.rely hrl) hway.rd (hway.sub hold.sub)) (fun _ => hPA) (fun _ => ⟨k1, k2⟩) (fun h => absurd rfl h) hs t0 t1 t5 f6
  · have cont' := fun t r w g c S h1 h2 h4 => cont t r w g c S h1 h2 (fun h => absurd h hk) h4
    clear cont
    generalize hZ : chkZ l z = kz at *
    have hk1 : (kz == 0) = false := by simpa using hk
    have hk2 : decide (kz = 0) = false := by simpa using hk
    refine me_run (m := 40) rfl trivial ?_
    repeat w_go kw_rely
    refine Goes.stop (fun w₁ h₁ => ?_)
    replace hF := kw_rely hF h₁
    refine cont' _ r _ none 0 [] (hold.rely hF.1) (fun h => absurd rfl h) (fun _ => rfl) ?_ ?_ ?_ ?_ ?_ <;> rfl
set_option maxRecDepth 100000 in
set_option maxHeartbeats 8000000 in
/-- sorted by the hands, it is what is wanted -/
theorem says_end {t : Array Value} {g : Option Addr} {c : Nat} {S : List Ev} (gl : GlF W0) (hA : ArgF W0 A b off cap l) (gw : Tryd.prog.globals.size ≤ n0) (hbef : l.Pairwise Bef) (hold : Hold n0 W0 r w) (p : PN r w g c S) (yes : chkZ l z = 0 → S.Perm l ∧ S.Pairwise SimPlain.Lt) (no : chkZ l z ≠ 0 → S = []) (hs : t.size = 39) (t0 : t[0]? = some (.slice A l.length cap)) (t1 : t[1]? = some (.int .i64 z)) (t5 : t[5]? = some (.int .i64 (chkZ l z))) (t6 : t[6]? = some (.slice g S.length c))
    (done : ∀ (t : Array Value) (todo : List Item) (r : Rts) (w : World), Hold n0 W0 r w → t.size = 39 → t[4]? = some (.bool true) → ME Tryd.prog wgL.tWg Post (.chs []) 0 r (G { (base 3).at ⟨t, []⟩ todo with mode := .returning } []) w) :
    ME Tryd.prog wgL.tWg Post (.chs []) 0 r (G ((base 3).at ⟨t, []⟩ [.code bodyZ7]) []) w := by
  obtain ⟨x0, x1, x2, x3, x4, x5, x6, x7, x8, x9, x10, x11, x12, x13, x14, x15, x16, x17, x18, x19, x20, x21, x22, x23, x24, x25, x26, x27, x28, x29, x30, x31, x32, x33, x34, x35, x36, x37, x38, rfl⟩ := arr39 hs
  obtain rfl : x0 = _ := by simpa using t0
  obtain rfl : x1 = _ := by simpa using t1
  obtain rfl : x5 = _ := by simpa using t5
  obtain rfl : x6 = _ := by simpa using t6
  clear hs t0 t1 t5 t6
  rw [bodyZ7_eq]
  simp only [rz7, rz8, bodyZ7, bodyZ5, bodyZ4, bodyZ2, bodyZ1, bodyZ, Option.getD_some, Tryd.f3]
  have hF : KW r ((Sg.chs []).iv wgL.tWg) w w := ⟨Rely.refl _ _, trivial⟩
  refine me_run (m := 9) rfl trivial ?_
  repeat w_go kw_rely
  refine Goes.stop (fun w₁ h₁ => ?_)
  replace hF := kw_rely hF h₁
  replace hold := hold.rely hF.1
  replace p := p.rely hF.1
  clear h₁ hF
  -- from here on the list that is wanted is kept, too
  have hold1 := hold.add p
  have arg1 := hA.add gw hold g S
  have gl1 := gl.add hold g S
  have back1 : ∀ {r' w'}, Hold w₁.heap.size (W0.add w₁ g S) r' w' → Hold n0 W0 r' w' := fun k => hold.back k
  have pn1 : ∀ {r' w'}, Hold w₁.heap.size (W0.add w₁ g S) r' w' → PN r' w' g c S := fun k => p.add k
  have gw1 : Tryd.prog.globals.size ≤ w₁.heap.size := Nat.le_trans gw hold.le
  clear hold p hA gl gw
  generalize W0.add w₁ g S = W1 at *
  generalize hn1 : w₁.heap.size = n1 at hold1 back1 pn1 gw1
  clear hn1
  refine me_call (c := body4) rfl rfl (by decide) rfl Tryd.func6 names4 (by kernel_rfl) ?_
  walk_nrmf Tryd.ntmps6
  refine crew_any (l := l) (z := z) (A := A) (b := b) (off := off) (cap := cap) (arg1.cq gw1 hold1) hbef fun t todo r w g' c' S' hold p' yes' no' hsz h4 h5 => ?_
  obtain rfl : S' = S := by
    by_cases hk : chkZ l z = 0
    · exact sorted_unique ((yes' hk).1.trans (yes hk).1.symm) (yes' hk).2 (yes hk).2
    · rw [no hk, no' hk]
  have h60 : S'.length ≤ 60 := by
    by_cases hk : chkZ l z = 0
    · rw [(yes hk).1.length_eq]
      have e : chkI l = 0 := by
        unfold chkZ at hk
        split at hk
        · cases hk
        · exact hk
      exact (chkI_fine e).1
    · rw [no hk]; simp
  clear yes yes' no no' hbef hold1 arg1
  refine me_leave2 rfl rfl Tryd.func6 rfl ?_
  walk_nrm
  simp only [h4, h5, Option.getD_some]
  clear h4 h5 hsz
  generalize hE : errV 36 (chkZ l z) = E
  generalize hN : S'.length = N at *
  have HN := Lib.hid hN
  clear hN
  have hF : KW r ((Sg.chs []).iv wgL.tWg) w w := ⟨Rely.refl _ _, trivial⟩
  refine me_run (m := 40) rfl trivial ?_
  repeat w_go kw_rely
  refine Goes.stop (fun w₂ h₂ => ?_)
  replace hF := kw_rely hF h₂
  replace hold := hold.rely hF.1
  replace p' := p'.rely hF.1
  clear h₂ hF
  -- .. and crew.Sort's list
  have hold2 := hold.add p'
  have gl2 := gl1.add hold g' S'
  have back2 : ∀ {r' w'}, Hold w₂.heap.size (W1.add w₂ g' S') r' w' → Hold n1 W1 r' w' := fun k => hold.back k
  have pn2 : ∀ {r' w'}, Hold w₂.heap.size (W1.add w₂ g' S') r' w' → PN r' w' g' c' S' := fun k => p'.add k
  clear hold p' gl1 gw1
  generalize W1.add w₂ g' S' = W2 at *
  generalize hn2 : w₂.heap.size = n2 at hold2 back2 pn2
  clear hn2
  subst hE
  refine me_call (c := bodyE) rfl rfl (by decide) rfl Tryd.func7 namesE (by kernel_rfl) ?_
  walk_nrmf Tryd.ntmps7
  refine error_goes gl2 hold2 fun t todo r w hold hs h4 => ?_
  refine me_leave1 rfl rfl Tryd.func7 rfl ?_
  walk_nrm
  simp only [h4, Option.getD_some]
  clear hs h4 hold2 gl2
  generalize errV 36 (chkZ l z) = E
  have hF : KW r ((Sg.chs []).iv wgL.tWg) w w := ⟨Rely.refl _ _, trivial⟩
  refine me_run (m := 40) rfl trivial ?_
  repeat w_go kw_rely
  refine Goes.stop (fun w₃ h₃ => ?_)
  replace hF := kw_rely hF h₃
  replace hold := hold.rely hF.1
  clear h₃ hF
  refine me_call (c := body6) rfl rfl (by decide) rfl Tryd.func8 names6 (by kernel_rfl) ?_
  walk_nrmf Tryd.ntmps8
  refine items_all (I := fun w => Hold n2 W2 r w) (S := S') (N := N) (g := g') (c := c') (g' := g) (c' := c) (fun w w' q k => Hold.rely q k) hold HN.out.symm h60 (pn2 hold) (pn1 (back2 hold)) fun s todo w hold _ _ hs h4 => ?_
  refine me_leave1 rfl rfl Tryd.func8 rfl ?_
  walk_nrm
  simp only [h4, Option.getD_some]
  clear hs h4 HN h60
  have hF : KW r ((Sg.chs []).iv wgL.tWg) w w := ⟨Rely.refl _ _, trivial⟩
  refine me_run (m := 40) rfl trivial ?_
  repeat w_go kw_rely
  refine Goes.stop (fun w₄ h₄ => ?_)
  replace hF := kw_rely hF h₄
  exact done _ _ r _ (back1 (back2 (hold.rely hF.1))) rfl rfl
end
/-- the last step of a call with nothing beneath it -/
theorem stepG_end {P : Program} {w : World} {b : Frame} {a : _root_.Go.Act} {fn : Func} {todo : List Item} {v : Value} (hn : b.kind = .normal) (hd : a.defers = []) (hf : P.funcs[b.fn]? = some fn)
    (hr : (results fn a.tmps).run P w = .ok v w) (he : (results fn a.tmps).events P w #[] = #[]) (hi : P.inits.idxOf? b.fn = none) :
    stepG P true (G { b.at a todo with mode := .returning } []) w = .ended (.done v) w #[] := by
  simp [G, stepG, unwind, doReturn, Frame.at, hn, hd, hf, hr, he, hi, seen, GStep.after]
theorem end3 (tm : Array Value) (todo : List Item) {v : Value} (h2 : tm[4]? = some v) (w : World) :
    stepG Tryd.prog true (G { (base 3).at ⟨tm, []⟩ todo with mode := .returning } []) w = .ended (.done v) w #[] := by
  have hd : tm.getD 4 undef = v := by
    rw [Array.getD_eq_getD_getElem?, h2]
    rfl
  exact stepG_end rfl rfl Tryd.func3 (by rw [← hd]; exact results_tmp rfl _ _ w) (events_results_tmp rfl _ _) (by kernel_rfl)
set_option maxRecDepth 100000 in
theorem says_run {W : World} {A : Option Addr} {b off cap : Nat} {l : List Ev} {z : Int} (hA : ArgF ⟨W, fun x => x < W.heap.size⟩ A b off cap l) (gl : W.cell? ⟨0, 0, none⟩ = some eT) (gw : Tryd.prog.globals.size ≤ W.heap.size) (hbef : l.Pairwise Bef) :
    ∃ N last o w' t', runNT Tryd.prog (N + 1) (solo (G (Frame.enter Tryd.prog 3 #[.slice A l.length cap, .int .i64 z] .normal) []) W) #[] = (.ended o w', t') ∧
      runN Tryd.prog N (solo (G (Frame.enter Tryd.prog 3 #[.slice A l.length cap, .int .i64 z] .normal) []) W) = .next last ∧ step Tryd.prog last = .ended o w' ∧
      Conc.Good Tryd.prog (fun v w' => v = .bool true ∧ Below W.heap.size W w') last o w' t' := by
  let r : Rts := ⟨fun l => l.low W.heap.size ∧ l.isMemory = true, fun l => l.low W.heap.size ∧ l.isMemory = true⟩
  have hold : Hold W.heap.size ⟨W, fun x => x < W.heap.size⟩ r W := ⟨fun _ h => h, fun a ha => ⟨ha, rfl⟩, fun b hb => ⟨hb, rfl⟩, ⟨rfl, rfl, rfl, fun _ _ => rfl⟩, Nat.le_refl _, fun _ h => h⟩
  have gl0 : GlF ⟨W, fun x => x < W.heap.size⟩ := ⟨cell_lt gl, gl⟩
  have hb3 : Tryd.f3.body = some bodyZ := by kernel_rfl
  have ME3 : ME Tryd.prog wgL.tWg (fun v w' => v = .bool true ∧ Below W.heap.size W w') (.chs []) 0 r (G (Frame.enter Tryd.prog 3 #[.slice A l.length cap, .int .i64 z] .normal) []) W := by
    rw [enter_at _ Tryd.func3 hb3, Tryd.ntmps3]
    simp only [List.size_toArray, List.length_cons, List.length_nil, Nat.reduceAdd, Nat.reduceSub, Array.replicate_succ, Array.replicate_zero, List.push_toArray, List.append_toArray, List.nil_append, List.cons_append]
    refine says_head hA gw hold fun t r' w' hold' hs t0 t1 t5 => ?_
    refine says_mid hold' hs t0 t1 t5 fun t w' hold' hs t0 t1 t5 t6 => ?_
    refine says_want hA gw hbef hold' hs t0 t1 t5 t6 fun t r' w' g c S hold' p yes no hs t0 t1 t5 t6 => ?_
    refine says_end gl0 hA gw hbef hold' p yes no hs t0 t1 t5 t6 fun t todo r' w' hold' hs h2 => ?_
    refine ME.end_ rfl fun w1 h1 => ⟨.bool true, #[], end3 t todo h2 w1, by simp, rfl, ?_⟩
    have h := hold'.rely h1
    exact ⟨h.keep.os, h.keep.tape, h.keep.output, h.le, fun k hk => h.keep.blk k hk⟩
  obtain ⟨T, hT⟩ := ME3
  exact mrun_ends hT (fun _ h => h.1) (fun _ h => h.2) fun _ h => h
end Go.Proofs.YtienepcknafddaaDoor
