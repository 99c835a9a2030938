/- FACTS: what the entries of internal/reflectlite list, at this program's types. -/
import Derived.Test.YtienepcknafddaaDoorAs
import Derived.Conc.EntryLaws
set_option linter.unusedVariables false
set_option linter.unusedSimpArgs false
namespace Go.Proofs.YtienepcknafddaaDoor
open Go Go.RowKit Go.Conc Go.Extern.Stop Go.Stop Go.Extern

abbrev mk1 (f : FuncId) : Array Event := #[⟨.mark (.extern f), false, true⟩]
theorem AsE.valueOf27 (t : Addr) (w : World) (f : FuncId) : (ReflectliteValue.unpack (.iface 75 (.pointer (some t)))).events Tryd.prog w (mk1 f) = mk1 f := by kernel_rfl
theorem AsE.type27 (a : Addr) (w : World) (f : FuncId) : (ReflectliteValue.methodAny (ReflectliteValue.valueError "reflectlite.Value.Type" 0) (fun t _ _ _ => ReflectliteType.toType t) #[.agg #[.pointer (some ⟨1, 75, none⟩), .pointer (some a), .int .u64 150]]).events Tryd.prog w (mk1 f) = mk1 f := by kernel_rfl
theorem AsE.methodKind (h : Value) (w : World) : (Go.method 244 102 (.agg #[h]) "Kind").events Tryd.prog w #[] = #[] := by kernel_rfl
theorem AsE.methodElem (h : Value) (w : World) : (Go.method 244 102 (.agg #[h]) "Elem").events Tryd.prog w #[] = #[] := by kernel_rfl
theorem AsE.methodImplements (h : Value) (w : World) : (Go.method 244 102 (.agg #[h]) "Implements").events Tryd.prog w #[] = #[] := by kernel_rfl
theorem AsE.methodAssignableTo (h : Value) (w : World) : (Go.method 244 102 (.agg #[h]) "AssignableTo").events Tryd.prog w #[] = #[] := by kernel_rfl
theorem AsE.kind27 (w : World) (f : FuncId) : ((ReflectliteType.abiMethod fun t => (fun a : Nat => Value.int IntKind.u8 (a : Int)) <$> Rtype.kind t) #[.pointer (some ⟨1, 75, none⟩)]).events Tryd.prog w (mk1 f) = mk1 f := by kernel_rfl
theorem AsE.kind25 (w : World) (f : FuncId) : ((ReflectliteType.abiMethod fun t => (fun a : Nat => Value.int IntKind.u8 (a : Int)) <$> Rtype.kind t) #[.pointer (some ⟨1, 36, none⟩)]).events Tryd.prog w (mk1 f) = mk1 f := by kernel_rfl
theorem AsE.elem27 (w : World) (f : FuncId) : (ReflectliteType.method ReflectliteType.elem #[.agg #[.pointer (some ⟨1, 75, none⟩)]]).events Tryd.prog w (mk1 f) = mk1 f := by kernel_rfl
theorem AsE.implements25 (w : World) (f : FuncId) : (ReflectliteType.relation "Implements" ReflectliteType.implements_ #[.agg #[.pointer (some ⟨1, 36, none⟩)], .iface 102 (.agg #[.pointer (some ⟨1, 26, none⟩)])]).events Tryd.prog w (mk1 f) = mk1 f := by kernel_rfl
theorem AsE.typeOf25 (v : Value) (w : World) (f : FuncId) : (ReflectliteType.typeOf #[.iface 36 v]).events Tryd.prog w (mk1 f) = mk1 f := by kernel_rfl
theorem AsE.assignable25 (w : World) (f : FuncId) : (ReflectliteType.relation "AssignableTo" ReflectliteType.assignableTo #[.agg #[.pointer (some ⟨1, 36, none⟩)], .iface 102 (.agg #[.pointer (some ⟨1, 36, none⟩)])]).events Tryd.prog w (mk1 f) = mk1 f := by kernel_rfl
theorem AsE.valueOf25 (e : Int) (w : World) (f : FuncId) : (ReflectliteValue.unpack (.iface 36 (.int .i64 e))).events Tryd.prog w (mk1 f) = mk1 f := by kernel_rfl
theorem AsE.parts27 (a : Addr) (w : World) (f : FuncId) : (ReflectliteValue.parts (.agg #[.pointer (some ⟨1, 75, none⟩), .pointer (some a), .int .u64 150])).events Tryd.prog w (mk1 f) = mk1 f := by kernel_rfl
theorem AsE.isNil27 (a p : Addr) (W : World) (f : FuncId) (ha : W.cell? a = some (.pointer (some p))) :
    (ReflectliteValue.method (ReflectliteValue.valueError "reflectlite.Value.IsNil" 0) ReflectliteValue.isNil #[.agg #[.pointer (some ⟨1, 75, none⟩), .pointer (some a), .int .u64 150]]).events Tryd.prog W (mk1 f) = #[⟨.mark (.extern f), false, true⟩, ⟨.cell a, false, false⟩] := by
  rw [rlm]
  simp only [Sem.events_bind, As.parts27, AsE.parts27, Result.evThen_ok]
  simp [ReflectliteValue.isNil, loadVar, isAgg, underlying, Tryd.underlying75, ha, Result.andThen]
theorem AsE.elemOf27 (w : World) (es : Array Event) : (Rtype.elem? 75).events Tryd.prog w es = es := by kernel_rfl
theorem AsE.mk25 (p : Addr) (w : World) (es : Array Event) : (ReflectliteValue.mk 36 p ReflectliteValue.flagAddr).events Tryd.prog w es = es := by kernel_rfl
theorem AsE.elemV27 (a p : Addr) (W : World) (f : FuncId) (ha : W.cell? a = some (.pointer (some p))) :
    (ReflectliteValue.method (ReflectliteValue.valueError "reflectlite.Value.Elem" 0) ReflectliteValue.elem #[.agg #[.pointer (some ⟨1, 75, none⟩), .pointer (some a), .int .u64 150]]).events Tryd.prog W (mk1 f) = #[⟨.mark (.extern f), false, true⟩, ⟨.cell a, false, false⟩] := by
  rw [rlm]
  simp only [Sem.events_bind, As.parts27, AsE.parts27, Result.evThen_ok]
  simp [ReflectliteValue.elem, loadVar, isAgg, underlying, Tryd.underlying75, ha, Result.andThen, As.elemOf27, As.mk25, AsE.elemOf27, AsE.mk25]
theorem AsE.parts25a (a : Addr) (w : World) (es : Array Event) : (ReflectliteValue.parts (.agg #[.pointer (some ⟨1, 36, none⟩), .pointer (some a), .int .u64 386])).events Tryd.prog w es = es := by kernel_rfl
theorem AsE.parts25 (a : Addr) (w : World) (es : Array Event) : (ReflectliteValue.parts (.agg #[.pointer (some ⟨1, 36, none⟩), .pointer (some a), .int .u64 130])).events Tryd.prog w es = es := by kernel_rfl
theorem AsE.direct25 (w : World) (es : Array Event) : (Rtype.directlyAssignable 36 36).events Tryd.prog w es = es := by kernel_rfl
theorem AsE.set25 (ta b : Addr) (e : Int) (old : Value) (W : World) (f : FuncId) (hb : W.cell? b = some (.int .i64 e)) (ht : W.cell? ta = some old) (hf : W.frozen? ta = false) :
    (ReflectliteValue.set #[.agg #[.pointer (some ⟨1, 36, none⟩), .pointer (some ta), .int .u64 386], .agg #[.pointer (some ⟨1, 36, none⟩), .pointer (some b), .int .u64 130]]).events Tryd.prog W (mk1 f) = #[⟨.mark (.extern f), false, true⟩, ⟨.cell b, false, false⟩, ⟨.cell ta, true, false⟩] := by
  rw [rls]
  simp only [Sem.events_bind, As.parts25a, As.parts25, AsE.parts25a, AsE.parts25, Result.evThen_ok]
  simp [ReflectliteValue.flagAddr, loadVar, isAgg, underlying, Tryd.underlying36, hb, Result.andThen, As.direct25, AsE.direct25, storeVar, Value.cells, storeCells, Addr.add]
  rw [events_store Tryd.prog W _ ta _ _ (by rfl)]
  simp [ht, hf]
end Go.Proofs.YtienepcknafddaaDoor
