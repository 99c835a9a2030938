/- CrewHands returns true at every input, and its argument reads behind the call as it read before (no condition beyond the row's own); in company: gather's and crew.Sort's goroutines, in whatever order they run. The frame is by a program of our own after the kit's proof-skeleton.mjs. -/
import Derived.Test.YtienepcknafddaaRows
import Derived.Test.YtienepcknafddaaM32
import Derived.WalkKit
import Derived.ProofKit
import Derived.OpenShut
import Derived.ShutString
import Derived.ChangeOld
import Derived.Below
import Derived.Conc.LeavingOf
import Derived.Conc.Holds
set_option linter.unusedVariables false
set_option linter.unusedSimpArgs false
namespace Go.Proofs.Ytienepcknafddaa.crewHands
open Go.ChangeShapes Go.WideShapes Go.ChangeAt Go.RowKit
set_option linter.unusedVariables false

theorem own : ownKnob Try.prog.godebug = none := by kernel_rfl
theorem laidOut : laidOutB Try.prog = true := by kernel_rfl

/-! the row -/
set_option maxRecDepth 100000 in
theorem lifted (os : Os) (started : os.Started) (H : Type) (enc : TypeId × Value → H) :
    ReturnsInLeavingWide {} Try.checked os 3 .any (Rows.crewHandsSpec.pre6 enc Try.prog Try.f3 Rows.crewHandsRow.domain false) (Rows.crewHandsSpec.post enc Try.prog Try.f3 false true false false) := by
  refine returnsInLeavingWide_of_change_sized (C := Try.checked) own started Try.func3
    (ChangeSpec.witness6 (enc := enc) (C := Try.checked) false ⟨#[], #[.slice none 0 0], []⟩ 8 (by kernel_rfl) (by kernel_rfl) (by kernel_rfl) (by kernel_rfl)) ?_
  intro W base args ds gs before hval0 hW hcnd _ _
  have hval : ∀ (j : Nat) t v, Try.f3.params[j]? = some t → args[j]? = some v → Value.okWide Try.prog W .any base t v := hval0
  have hW' := hW
  obtain ⟨p, q, hA0, hV, rfl, hfz, hnd⟩ := hW
  have hA : DataW.TrodAll enc Try.prog W 0 (fun _ => true) true Try.f3.params.toList args.toList ds p := hA0
  rw [Try.params3] at hA hval
  obtain ⟨v0, vs0, d0, ds0, p0, q0, hargs, rfl, rfl, h0, r0⟩ := trodAll_cons hA
  obtain ⟨rfl, rfl, rfl⟩ := trodAll_nil r0
  obtain rfl : args = #[v0] := by cases args; simp_all
  obtain ⟨rfl, rfl⟩ := trodVars_none hV
  have hv0 := hval 0 22 v0 rfl rfl
  obtain ⟨a0, len0, cap0, rfl⟩ := okWide_slice Try.underlying22 hv0
  have k0 := h0
  have lt0 : ∀ x ∈ p0, x.block < W.heap.size := by obtain ⟨m, hm⟩ := k0; exact DataW.trod_lt m _ _ _ hm
  have w0 : Row_its W a0 len0 cap0 := by
    obtain ⟨fuel, hf⟩ := h0
    exact open_its hf
  have gz : Try.prog.globals.size = 0 := by kernel_rfl
  obtain ⟨b, off, l, rfl, hF, hbef⟩ := row_its w0 (fun x e => by subst e; exact okWide_lies Try.underlying22 hv0) gz
  clear hA0 hval0
  obtain ⟨M, last, o, w', t', h1, h2, h3, h4⟩ := hands_run hF (by rw [gz]; exact Nat.zero_le _) hbef
  refine ⟨M, last, o, w', t', h1, h2, h3, h4.mono fun v hv => ?_⟩
  obtain ⟨rfl, bel⟩ := hv
  exact ⟨_, _, _, [], _, [], hW', trodAll_mk1 (shut_bool Try.underlying4 _), (trodAll_cons_mk (Below.trod laidOut (by kernel_rfl) (of_decide_eq_true (by kernel_rfl)) k0 bel lt0) trodAll_mk0), rfl, bel.frame _, fun h => by cases h⟩

theorem over : Rows.crewHandsRow.holds Try.pinned (OpenSpec.ofChange Rows.crewHandsSpec) :=
  OpenClaim.holds_of_wide_leaving 3 Try.f3 rfl rfl rfl rfl rfl rfl rfl ⟨rfl, rfl, rfl, rfl, rfl⟩ rfl rfl rfl rfl rfl (by kernel_rfl) Try.func3 (by kernel_rfl)
    (of_decide_eq_true (by kernel_rfl)) (by unfold Func.isWrapper; first | (rw [if_pos (by decide +kernel)]; kernel_rfl) | (rw [if_neg (by decide +kernel)]; exact ⟨rfl, rfl⟩))
    (fun os started H enc _ => lifted os started H enc)
end Go.Proofs.Ytienepcknafddaa.crewHands
namespace Go.Proofs.Ytienepcknafddaa
/-- the statement -/
theorem crewHands_holds : Rows.CrewHandsSaid := crewHands.over
#print axioms crewHands_holds
end Go.Proofs.Ytienepcknafddaa
