/- WALK: crew.Sort in company, whatever the number of hands. -/
import Derived.Test.YtienepcknafddaaDoorM31
import Derived.Test.YtienepcknafddaaDoorM32
set_option linter.unusedVariables false
set_option linter.unusedSimpArgs false
namespace Go.Proofs.YtienepcknafddaaDoor
open Go Go.RowKit Go.Conc Co Cr SimPlain HeapPlain SymPlain
open Go.ConcM

theorem mi36e (n : Int) (w : World) : (Instr.makeInterface 36 (.int .i64 n)).events Tryd.prog w #[] = #[] := by kernel_rfl
theorem mi36 {ρ : Operand → Value} {o : Oper} {x : Operand} {n : Int} (hop : o.op = .makeInterface 36 x) (hx : ρ x = .int .i64 n) (w : World) : (execOp ρ o).run Tryd.prog w = .ok (.value (.iface 36 (.int .i64 n))) w ∧ (execOp ρ o).events Tryd.prog w #[] = #[] := by
  unfold execOp; simp only [hop]; simp [go_sem, hx, mi36e]
section
variable {Post : Value → World → Prop} {r : Rts} {w : World} {n0 : Nat} {W0 : Past} {A : Option Addr} {b off cap L H : Nat} {l : List Ev} {z : Int}
set_option maxRecDepth 100000 in
set_option maxHeartbeats 8000000 in
theorem sort_range {cs : List Frame} {t : Array Value} (F : CrF n0 W0 r w A b off cap l L H z) (hz : z < 1 ∨ 6 < z) (hs : t.size = 31) (h2 : t[2]? = some (.pointer (some ⟨L, 0, none⟩))) (h3 : t[3]? = some (.pointer (some ⟨H, 0, none⟩)))
    (cont : ∀ (t : Array Value) (todo : List Item) (r : Rts) (w : World), Hold n0 W0 r w → t.size = 31 → t[4]? = some (.slice none 0 0) → t[5]? = some (.iface 36 (.int .i64 1)) → ME Tryd.prog wgL.tWg Post (.chs []) 0 r (G { (base 6).at ⟨t, []⟩ todo with mode := .returning } cs) w) :
    ME Tryd.prog wgL.tWg Post (.chs []) 0 r (G ((base 6).at ⟨t, []⟩ [.code body4b]) cs) w := by
  obtain ⟨x0, x1, x2, x3, x4, x5, x6, x7, x8, x9, x10, x11, x12, x13, x14, x15, x16, x17, x18, x19, x20, x21, x22, x23, x24, x25, x26, x27, x28, x29, x30, rfl⟩ := arr31 hs
  obtain rfl : x2 = _ := by simpa using h2
  obtain rfl : x3 = _ := by simpa using h3
  clear hs h2 h3
  refine me_ctl rfl (fun _ => stepB4) ?_
  simp only [rs4, rs5, qSc, Tryd.f6]
  have hF : KW r ((Sg.chs []).iv wgL.tWg) w w := ⟨Rely.refl _ _, trivial⟩
  refine me_run (m := 2) rfl trivial ?_
  w_go kw_rely
  w_go kw_rely
  refine Goes.stop (fun w₁ h₁ => ?_)
  replace hF := kw_rely hF h₁
  replace F := F.rely hF.1
  clear h₁ hF
  refine me_ld rfl rfl (by decide) loud4 rfl (ld3 rfl rfl) F.hH (F.rH.2 _ rfl) ?_
  walk_nrm
  refine me_call rfl rfl (by decide) rfl Tryd.func11 (by kernel_rfl) rfl ?_
  walk_nrmf Tryd.f11
  rcases Int.lt_or_le z 1 with h1 | h1
  all_goals
    first
      | (have z1 : decide (1 ≤ z) = false := decide_eq_false (by omega))
      | skip
    first
      | (have z6 : decide (z ≤ 6) = false := decide_eq_false (by omega))
      | skip
    have hF : KW r ((Sg.chs []).iv wgL.tWg) w₁ w₁ := ⟨Rely.refl _ _, trivial⟩
    refine me_run (m := 30) rfl trivial ?_
    repeat w_go kw_rely
    refine Goes.stop (fun w₁ h₁ => ?_)
    replace hF := kw_rely hF h₁
    replace F := F.rely hF.1
    clear h₁ hF
    refine me_leave1 rfl rfl Tryd.func11 rfl ?_
    walk_nrm
    have hF : KW r ((Sg.chs []).iv wgL.tWg) w₁ w₁ := ⟨Rely.refl _ _, trivial⟩
    refine me_run (m := 30) rfl trivial ?_
    repeat w_go kw_rely
    refine Goes.stop (fun w₁ h₁ => ?_)
    replace hF := kw_rely hF h₁
    replace F := F.rely hF.1
    clear h₁ hF
    refine me_op rfl rfl (by decide) loud4 (mi36 (n := 1) rfl rfl) ?_
    walk_nrm
    have hF : KW r ((Sg.chs []).iv wgL.tWg) w₁ w₁ := ⟨Rely.refl _ _, trivial⟩
    refine me_run (m := 4) rfl trivial ?_
    w_go kw_rely
    w_go kw_rely
    w_go kw_rely
    w_go kw_rely
    refine Goes.stop (fun w₁ h₁ => ?_)
    replace hF := kw_rely hF h₁
    refine cont _ _ r _ (F.q.hold.rely hF.1) ?_ ?_ ?_ <;> rfl
/-- what is wrong with items and hands -/
def chkZ (l : List Ev) (z : Int) : Int := if chkI l = 0 ∧ (z < 1 ∨ 6 < z) then 1 else chkI l
theorem crew_any {cs : List Frame} (F : CqF n0 W0 r w A b off cap l) (hbef : l.Pairwise Bef)
    (cont : ∀ (t : Array Value) (todo : List Item) (r : Rts) (w : World) (g : Option Addr) (c : Nat) (S : List Ev), Hold n0 W0 r w → PN r w g c S → (chkZ l z = 0 → S.Perm l ∧ S.Pairwise SimPlain.Lt) → (chkZ l z ≠ 0 → S = []) → t.size = 31 → t[4]? = some (.slice g S.length c) → t[5]? = some (errV 36 (chkZ l z)) → ME Tryd.prog wgL.tWg Post (.chs []) 0 r (G { (base 6).at ⟨t, []⟩ todo with mode := .returning } cs) w) :
    ME Tryd.prog wgL.tWg Post (.chs []) 0 r (G ((base 6).at ⟨#[.slice A l.length cap, .int .i64 z, undef, undef, undef, undef, undef, undef, undef, undef, undef, undef, undef, undef, undef, undef, undef, undef, undef, undef, undef, undef, undef, undef, undef, undef, undef, undef, undef, undef, undef], []⟩ [.code body4]) cs) w := by
  by_cases hz : z < 1 ∨ 6 < z
  · refine sort_head (z := z) F (fun t todo r w hk F hs h4 h5 => ?_) fun t r w L H hk F hs h2 h3 => ?_
    · have e : chkZ l z = chkI l := by unfold chkZ; rw [if_neg (fun h => hk h.1)]
      exact cont t todo r w none 0 [] F.hold (fun h => absurd rfl h) (fun h => absurd (e ▸ h) hk) (fun _ => rfl) hs h4 (by rw [e]; exact h5)
    · have e : chkZ l z = 1 := by unfold chkZ; rw [if_pos ⟨hk, hz⟩]
      refine sort_range F hz hs h2 h3 fun t todo r w hold hs h4 h5 => ?_
      exact cont t todo r w none 0 [] hold (fun h => absurd rfl h) (fun h => by rw [e] at h; cases h) (fun _ => rfl) hs h4 (by rw [e]; exact h5)
  · have e : chkZ l z = chkI l := by unfold chkZ; rw [if_neg (fun h => hz h.2)]
    obtain ⟨h, rfl⟩ : ∃ h : Nat, z = h := ⟨z.toNat, by omega⟩
    refine crew_sort F (by omega) (by omega) hbef (fun t todo r w hk hold hs h4 h5 => ?_) fun t todo r w g c S hk hold hp hperm hsrt hs h4 h5 => ?_
    · exact cont t todo r w none 0 [] hold (fun h => absurd rfl h) (fun h => absurd (e ▸ h) hk) (fun _ => rfl) hs h4 (by rw [e]; exact h5)
    · exact cont t todo r w g c S hold (fun _ => hp) (fun _ => ⟨hperm, hsrt⟩) (fun h => absurd hk (e ▸ h)) hs h4 (by rw [e, hk]; exact h5)
end
end Go.Proofs.YtienepcknafddaaDoor
