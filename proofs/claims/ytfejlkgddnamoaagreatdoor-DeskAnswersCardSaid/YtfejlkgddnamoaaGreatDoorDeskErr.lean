/- WALKS: api.Errno's name; errors.As at what errors.New made; desk.told. -/
import Derived.Test.YtfejlkgddnamoaaGreatDoorErrA
import Derived.Test.YtfejlkgddnamoaaGreatDoorDeskPlain
set_option linter.unusedVariables false
set_option linter.unusedSimpArgs false
namespace Go.Proofs.YtfejlkgddnamoaaGreatDoor
open Go Go.RowKit Go.Extern.Stop Go.Stop Go.Extern

set_option maxRecDepth 100000 in
set_option maxHeartbeats 4000000 in
theorem errno_any (c : Int) (w : World) : Calls Tryz.prog 82 #[.int .i64 c] w fun e w' => e = .returned (.string ⟨(called c).toArray⟩) ∧ w' = w := by
  rcases (by omega : c = 0 ∨ c = 1 ∨ c = 2 ∨ c = 3 ∨ c = 4 ∨ c = 5 ∨ c = 6 ∨ c = 7 ∨ c = 8 ∨ (c < 0 ∨ 8 < c)) with rfl | rfl | rfl | rfl | rfl | rfl | rfl | rfl | rfl | hc
  iterate 9
    · go_enter Tryz.func82, Tryz.ntmps82
      go_wp2
      go_ret
      exact ⟨rfl, rfl⟩
  have e : called c = [69, 114, 114, 110, 111] := by
    unfold called
    rw [if_neg (by omega), if_neg (by omega), if_neg (by omega), if_neg (by omega), if_neg (by omega), if_neg (by omega), if_neg (by omega), if_neg (by omega), if_neg (by omega)]
  rw [e]
  have b : ∀ k : Int, (k = 0 ∨ k = 1 ∨ k = 2 ∨ k = 3 ∨ k = 4 ∨ k = 5 ∨ k = 6 ∨ k = 7 ∨ k = 8) → (c == k) = false := fun k hk => by rw [beq_eq_false_iff_ne]; omega
  have b0 := b 0 (by decide)
  have b1 := b 1 (by decide)
  have b2 := b 2 (by decide)
  have b3 := b 3 (by decide)
  have b4 := b 4 (by decide)
  have b5 := b 5 (by decide)
  have b6 := b 6 (by decide)
  have b7 := b 7 (by decide)
  have b8 := b 8 (by decide)
  clear b e hc
  go_enter Tryz.func82, Tryz.ntmps82
  go_wp2
  go_ret
  exact ⟨rfl, rfl⟩

/-! errors.As: what errors.New made is no Errno -/
theorem As.typeOfEs (v : Value) (w : World) : (ReflectliteType.typeOf #[.iface 184 v]).run Tryz.prog w = .ok (.iface 149 (.agg #[.pointer (some ⟨10, 184, none⟩)])) w := by kernel_rfl
theorem As.assignableEs (w : World) : (ReflectliteType.relation "AssignableTo" ReflectliteType.assignableTo #[.agg #[.pointer (some ⟨10, 184, none⟩)], .iface 149 (.agg #[.pointer (some ⟨10, 56, none⟩)])]).run Tryz.prog w = .ok (.bool false) w := by kernel_rfl
theorem As.noAs (v : Value) (x : TypeId) (w : World) : (Instr.typeAssert (.iface 184 v) x 154 true).run Tryz.prog w = .ok (.tuple #[.nilIface, .bool false]) w := run_typeAssert_lacksB Tryz.underlying154 (by kernel_rfl) (by kernel_rfl) v x w
theorem As.noUn (v : Value) (x : TypeId) (w : World) : (Instr.typeAssert (.iface 184 v) x 157 true).run Tryz.prog w = .ok (.tuple #[.nilIface, .bool false]) w := run_typeAssert_lacksB Tryz.underlying157 (by kernel_rfl) (by kernel_rfl) v x w
theorem As.noUns (v : Value) (x : TypeId) (w : World) : (Instr.typeAssert (.iface 184 v) x 159 true).run Tryz.prog w = .ok (.tuple #[.nilIface, .bool false]) w := run_typeAssert_lacksB Tryz.underlying159 (by kernel_rfl) (by kernel_rfl) v x w
set_option maxRecDepth 100000 in
set_option maxHeartbeats 8000000 in
theorem as_miss (p : Value) (t : Addr) (w : World) (hg : w.cell? ⟨0, 0, none⟩ = some (.iface 149 (.agg #[.pointer (some ⟨10, 27, none⟩)]))) :
    Calls Tryz.prog 50 #[.iface 184 p, .iface 95 (.pointer (some t))] w fun ev w' => ev = .returned (.bool false) ∧ Below w.heap.size w w' := by
  have h6 := @run_callFunc_extern Tryz.prog 72 _ (fun args => ReflectliteValue.unpack (args.getD 0 (.tuple #[]))) Tryz.func72 (by kernel_rfl) (by kernel_rfl) (by kernel_rfl) (by kernel_rfl)
  have h7 := @run_callFunc_extern Tryz.prog 73 _ (ReflectliteValue.methodAny (ReflectliteValue.valueError "reflectlite.Value.Type" 0) (fun t _ _ _ => ReflectliteType.toType t)) Tryz.func73 (by kernel_rfl) (by kernel_rfl) (by kernel_rfl) (by kernel_rfl)
  have h8 := @run_callFunc_extern Tryz.prog 74 _ (ReflectliteValue.method (ReflectliteValue.valueError "reflectlite.Value.IsNil" 0) ReflectliteValue.isNil) Tryz.func74 (by kernel_rfl) (by kernel_rfl) (by kernel_rfl) (by kernel_rfl)
  have h27 := @run_callFunc_extern Tryz.prog 146 _ (ReflectliteType.abiMethod fun t => do pure (.int .u8 (← Rtype.kind t))) Tryz.func146 (by kernel_rfl) (by kernel_rfl) (by kernel_rfl) (by kernel_rfl)
  have h37 := @run_callFunc_extern Tryz.prog 156 _ (ReflectliteType.method ReflectliteType.elem) Tryz.func156 (by kernel_rfl) (by kernel_rfl) (by kernel_rfl) (by kernel_rfl)
  have h38 := @run_callFunc_extern Tryz.prog 157 _ (ReflectliteType.relation "Implements" ReflectliteType.implements_) Tryz.func157 (by kernel_rfl) (by kernel_rfl) (by kernel_rfl) (by kernel_rfl)
  have h10 := @run_callFunc_extern Tryz.prog 98 _ ReflectliteType.typeOf Tryz.func98 (by kernel_rfl) (by kernel_rfl) (by kernel_rfl) (by kernel_rfl)
  have h35 := @run_callFunc_extern Tryz.prog 154 _ (ReflectliteType.relation "AssignableTo" ReflectliteType.assignableTo) Tryz.func154 (by kernel_rfl) (by kernel_rfl) (by kernel_rfl) (by kernel_rfl)
  have nA := As.noAs
  have nU := As.noUn
  have nV := As.noUns
  have tO := As.typeOfEs
  have mA := As.methodAssignableTo
  have a25 := As.assignableEs
  have f6 := As.valueOf27
  have f7 := As.type27
  have mK := As.methodKind
  have mE := As.methodElem
  have mI := As.methodImplements
  have k27 := As.kind27
  have k25 := As.kind25
  have e27 := As.elem27
  have i25 := As.implements25
  have n8 := As.isNil27 ⟨w.heap.size, 0, none⟩ t ((w.alloc (.cells #[.pointer (some t)] 95)).alloc (.cells #[.pointer (some ⟨10, 95, none⟩), .pointer (some ⟨w.heap.size, 0, none⟩), .int .u64 150] 124)) (by simp)
  have hlt : 0 < w.heap.size := World.block_lt_of_cell? w _ hg
  have hg2 : ((w.alloc (.cells #[.pointer (some t)] 95)).alloc (.cells #[.pointer (some ⟨10, 95, none⟩), .pointer (some ⟨w.heap.size, 0, none⟩), .int .u64 150] 124)).cell? ⟨0, 0, none⟩ = some (.iface 149 (.agg #[.pointer (some ⟨10, 27, none⟩)])) := by
    rw [World.cell?_alloc_lt _ _ ⟨0, 0, none⟩ (by simp <;> omega), World.cell?_alloc_lt _ _ ⟨0, 0, none⟩ hlt]; exact hg
  go_enter Tryz.func50, Tryz.ntmps50
  go_wp2
  refine wp_loop_rounds 1 ?_
  rw [rounds_succ]
  go_wp2
  go_ret
  exact ⟨rfl, (((Below.refl w.heap.size w).alloc (Nat.le_refl _) _).alloc (by simp) _).alloc (by simp; omega) _⟩
/-! desk.told -/
set_option maxHeartbeats 4000000 in
theorem dtold_err (n : Int) (w : World) (hg : Handle w) : Calls Tryz.prog 54 #[.iface 56 (.int .i64 n)] w fun e w' => e = .returned (.string ⟨(called n).toArray⟩) ∧ Below w.heap.size w w' := by
  have hlt := hg.lt
  unfold Handle at hg
  have hgA : (w.alloc (.cells #[.int .i64 0] 56)).cell? ⟨0, 0, none⟩ = some (.iface 149 (.agg #[.pointer (some ⟨10, 27, none⟩)])) := by
    rw [World.cell?_alloc_lt _ _ ⟨0, 0, none⟩ hlt]; exact hg
  have htA : (w.alloc (.cells #[.int .i64 0] 56)).cell? ⟨w.heap.size, 0, none⟩ = some (.int .i64 0) := by simp
  have hfA : (w.alloc (.cells #[.int .i64 0] 56)).frozen? ⟨w.heap.size, 0, none⟩ = false := by simp
  go_enter Tryz.func54, Tryz.ntmps54
  go_wp2_with fail
  refine (as_hit n ⟨w.heap.size, 0, none⟩ (.int .i64 0) _ hgA htA hfA).mono ?_
  rintro e w' ⟨rfl, hw⟩
  have hb : Below w.heap.size w w' := by
    rw [hw]
    exact ((((((Below.refl w.heap.size w).alloc (Nat.le_refl _) _).alloc (by simp) _).alloc (by simp; omega) _).alloc (by simp; omega) _).alloc (by simp; omega) _).setCell (p := ⟨w.heap.size, 0, none⟩) (Nat.le_refl _) _
  have hc : w'.cell? ⟨w.heap.size, 0, none⟩ = some (.int .i64 n) := by
    rw [hw]
    apply World.cell?_setCell_same
    rw [World.cell?_alloc_lt _ _ ⟨w.heap.size, 0, none⟩ (by simp; omega), World.cell?_alloc_lt _ _ ⟨w.heap.size, 0, none⟩ (by simp; omega), World.cell?_alloc_lt _ _ ⟨w.heap.size, 0, none⟩ (by simp; omega), World.cell?_alloc_lt _ _ ⟨w.heap.size, 0, none⟩ (by simp), htA]
  clear hw
  go_wp2_with fail
  refine (errno_any n _).mono ?_
  rintro e w2 ⟨rfl, rfl⟩
  go_wp2
  go_ret
  exact ⟨rfl, hb⟩
set_option maxHeartbeats 4000000 in
theorem dtold_bad (p : Value) (w : World) (hg : Handle w) : Calls Tryz.prog 54 #[.iface 184 p] w fun e w' => e = .returned (.string ⟨badB.toArray⟩) ∧ Below w.heap.size w w' := by
  have hlt := hg.lt
  unfold Handle at hg
  have hgA : (w.alloc (.cells #[.int .i64 0] 56)).cell? ⟨0, 0, none⟩ = some (.iface 149 (.agg #[.pointer (some ⟨10, 27, none⟩)])) := by
    rw [World.cell?_alloc_lt _ _ ⟨0, 0, none⟩ hlt]; exact hg
  go_enter Tryz.func54, Tryz.ntmps54
  go_wp2_with fail
  refine (as_miss p ⟨w.heap.size, 0, none⟩ _ hgA).mono ?_
  rintro e w' ⟨rfl, hb⟩
  have hb : Below w.heap.size w w' := ((Below.refl w.heap.size w).alloc (Nat.le_refl _) _).trans (hb.mono (by simp))
  go_wp2
  go_ret
  exact ⟨rfl, hb⟩
end Go.Proofs.YtfejlkgddnamoaaGreatDoor
