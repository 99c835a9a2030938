/- WALK: errors.as, errors.As, plain.Told, ricksteadsame.Error in company: their texts in parts. -/
import Derived.Test.YtienepcknafddaaDoorCxRange
import Derived.Test.YtienepcknafddaaDoorCxAsEv
import Derived.Test.YtienepcknafddaaDoorCrExt
set_option linter.unusedVariables false
set_option linter.unusedSimpArgs false
namespace Go.Proofs.YtienepcknafddaaDoor
open Go Go.RowKit Go.Conc Co Cr SimPlain HeapPlain SymPlain
open Go.ConcM

noncomputable def qA1 : Code := match Tryd.f42.body with | some (.seq _ c) => c | _ => .skip
noncomputable def qA2 : Code := match qA1 with | .seq _ c => c | _ => .skip
noncomputable def qA3 : Code := match qA2 with | .seq _ c => c | _ => .skip
noncomputable def qA4 : Code := match qA3 with | .seq _ c => c | _ => .skip
noncomputable def qA5 : Code := match qA4 with | .seq _ c => c | _ => .skip
noncomputable def qA6 : Code := match qA5 with | .seq _ c => c | _ => .skip
noncomputable def qA7 : Code := match qA6 with | .seq _ c => c | _ => .skip
noncomputable def qA8 : Code := match qA7 with | .seq _ c => c | _ => .skip
noncomputable def rg (c : Code) : Array Oper := match c with | .region _ o _ => o | .seq (.region _ o _) _ => o | .seq (.seq (.region _ o _) _) _ => o | _ => #[]
noncomputable def ra0 : Array Oper := match Tryd.f42.body with | some (.seq (.region _ o _) _) => o | _ => #[]
noncomputable def ra1 : Array Oper := match qA1 with | .seq (.seq (.region _ o _) _) _ => o | _ => #[]
noncomputable def ra2 : Array Oper := match qA1 with | .seq (.seq _ (.cond _ (.seq (.region _ o _) _) _)) _ => o | _ => #[]
noncomputable def ra3 : Array Oper := match qA2 with | .seq (.seq (.region _ o _) _) _ => o | _ => #[]
noncomputable def ra4 : Array Oper := match qA2 with | .seq (.seq _ (.cond _ (.region _ o _) _)) _ => o | _ => #[]
noncomputable def ra5 : Array Oper := match qA3 with | .seq (.region _ o _) _ => o | _ => #[]
noncomputable def ra6 : Array Oper := match qA4 with | .seq (.region _ o _) _ => o | _ => #[]
noncomputable def ra7 : Array Oper := match qA5 with | .seq (.seq (.region _ o _) _) _ => o | _ => #[]
noncomputable def ra8 : Array Oper := match qA5 with | .seq (.seq _ (.cond _ (.region _ o _) _)) _ => o | _ => #[]
noncomputable def ra9 : Array Oper := match qA6 with | .seq (.region _ o _) _ => o | _ => #[]
noncomputable def ra10 : Array Oper := match qA7 with | .seq (.seq (.region _ o _) _) _ => o | _ => #[]
noncomputable def ra11 : Array Oper := match qA7 with | .seq (.seq _ (.cond _ (.region _ o _) _)) _ => o | _ => #[]
noncomputable def ra12 : Array Oper := match qA8 with | .seq (.region _ o _) _ => o | _ => #[]
noncomputable def bodyA : Code := Tryd.f42.body.getD .skip
theorem bodyA_eq : bodyA = .seq (.region 0 ra0 false) (.seq (.seq (.region 1 ra1 false) (.cond (.tmp 9) (.seq (.region 2 ra2 false) .ret) .skip)) (.seq (.seq (.region 3 ra3 false) (.cond (.tmp 11) (.region 4 ra4 false) .skip)) (.seq (.region 5 ra5 false) (.seq (.region 6 ra6 false) (.seq (.seq (.region 7 ra7 false) (.cond (.tmp 23) (.region 8 ra8 false) .skip)) (.seq (.region 9 ra9 false) (.seq (.seq (.region 10 ra10 false) (.cond (.tmp 35) (.region 11 ra11 false) .skip)) (.seq (.region 12 ra12 false) .ret)))))))) := by kernel_rfl
noncomputable def bodyA6 : Code := match bodyA with | .seq _ (.seq _ (.seq _ (.seq _ c))) => c | _ => .skip
noncomputable def bodyA10 : Code := match bodyA6 with | .seq _ (.seq _ (.seq _ c)) => c | _ => .skip
theorem bodyA_eq' : bodyA = .seq (.region 0 ra0 false) (.seq (.seq (.region 1 ra1 false) (.cond (.tmp 9) (.seq (.region 2 ra2 false) .ret) .skip)) (.seq (.seq (.region 3 ra3 false) (.cond (.tmp 11) (.region 4 ra4 false) .skip)) (.seq (.region 5 ra5 false) bodyA6))) := by kernel_rfl
theorem bodyA6_eq : bodyA6 = .seq (.region 6 ra6 false) (.seq (.seq (.region 7 ra7 false) (.cond (.tmp 23) (.region 8 ra8 false) .skip)) (.seq (.region 9 ra9 false) bodyA10)) := by kernel_rfl
theorem bodyA10_eq : bodyA10 = .seq (.seq (.region 10 ra10 false) (.cond (.tmp 35) (.region 11 ra11 false) .skip)) (.seq (.region 12 ra12 false) .ret) := by kernel_rfl
noncomputable def qB : Code := match Tryd.f54.body with | some (.seq _ (.block _ (.loop c))) => c | _ => .skip
noncomputable def qB1 : Code := match qB with | .block _ (.seq c _) => c | _ => .skip
noncomputable def qB2 : Code := match qB with | .block _ (.seq _ c) => c | _ => .skip
noncomputable def rb0 : Array Oper := match Tryd.f54.body with | some (.seq (.region _ o _) _) => o | _ => #[]
noncomputable def rb1 : Array Oper := match qB1 with | .seq (.region _ o _) _ => o | _ => #[]
noncomputable def rb2 : Array Oper := match qB1 with | .seq _ (.cond _ (.seq (.region _ o _) _) _) => o | _ => #[]
noncomputable def rb3 : Array Oper := match qB1 with | .seq _ (.cond _ (.seq _ (.seq (.region _ o _) _)) _) => o | _ => #[]
noncomputable def bodyB : Code := Tryd.f54.body.getD .skip
theorem bodyB_eq : bodyB = .seq (.region 0 rb0 false) (.block 0 (.loop (.block 1 (.seq (.seq (.region 1 rb1 false) (.cond (.tmp 19) (.seq (.region 2 rb2 false) (.seq (.region 3 rb3 false) .ret)) .skip)) qB2)))) := by kernel_rfl
theorem loudA : (Tryd.prog.funcs[42]?).any (·.norace) = false := by kernel_rfl
theorem loudB : (Tryd.prog.funcs[54]?).any (·.norace) = false := by kernel_rfl
theorem loudT : (Tryd.prog.funcs[18]?).any (·.norace) = false := by kernel_rfl
theorem namesA : (Tryd.f42.name == "runtime.NumGoroutine") = false := by kernel_rfl
theorem namesB : (Tryd.f54.name == "runtime.NumGoroutine") = false := by kernel_rfl
theorem namesT : (Tryd.f18.name == "runtime.NumGoroutine") = false := by kernel_rfl
theorem namesE : (Tryd.f7.name == "runtime.NumGoroutine") = false := by kernel_rfl

/-! ### what the entries are -/
theorem xValueOf : Extern.find Tryd.f51 = some (fun args => Extern.ReflectliteValue.unpack (args.getD 0 (.tuple #[]))) := by kernel_rfl
end Go.Proofs.YtienepcknafddaaDoor
