/- PLAIN LAW of the model: the starter's operations that list what they list: entries of the library, records loaded and stored (no program text in sight). -/
import Derived.Test.YtienepcknafddaaDoorM30
import Derived.Conc.EntryLaws
set_option linter.unusedVariables false
set_option linter.unusedSimpArgs false
namespace Cr
open Go Go.Conc Co Go.RowKit
theorem evok_mark {r : Rts} {S : Loc → Prop} {main : Bool} {n n' : Nat} (f : FuncId) : EvOk r S main n n' ⟨.mark (.extern f), false, true⟩ :=
  ⟨fun b hb => by simp [MemAct.ofEvent, MemAct.touch?] at hb, by simp, by simp, by simp, by simp [MemAct.ofEvent, MemAct.low]⟩
section
variable {P : Program} {ty : TypeId} {Post : Value → World → Prop} {σ : Sg} {d : Nat} {r : Rts} {b : Frame} {a : _root_.Go.Act} {k : List Item} {cs : List Frame} {w : World} {ops : Array Oper} {i : Nat} {rest : List Nat} {o : Oper}
/-- an operation that turns the world to T -/
theorem me_gen (ho : ops[i]? = some o) (hg : Region.wanted o (yielded ops a.tmps) = true) (hk : b.kind ≠ .early) {v : World → Value} {T : World → World}
    (h : ∀ w1, Rely r w w1 → (execOp a.eval o).run P w1 = .ok (.value (v w1)) (T w1) ∧ (∀ e ∈ (execOp a.eval o).events P w1 #[], EvOk r σ.sy true w1.heap.size (T w1).heap.size e) ∧ Turn r.wr w1 (T w1))
    (hT : ∀ w1, Rely r w w1 → σ.iv ty w1 → ME P ty Post σ d (r.new w1.heap.size (T w1).heap.size) (G (b.at (a.put o.dst (v w1)) (.inRegion ops rest :: k)) cs) (T w1)) :
    ME P ty Post σ d r (G (b.at a (.inRegion ops (i :: rest) :: k)) cs) w :=
  ME.silent rfl fun w1 h1 hi => ⟨_, T w1, _, by rw [stepG_value ho hg hk (h w1 h1).1], ⟨(h w1 h1).2.2, fun e he => (h w1 h1).2.1 e (mem_listed he)⟩, hT w1 h1 hi⟩
/-- .. and yields nothing -/
theorem me_gen0 (ho : ops[i]? = some o) (hg : Region.wanted o (yielded ops a.tmps) = true) (hk : b.kind ≠ .early) {T : World → World}
    (h : ∀ w1, Rely r w w1 → (execOp a.eval o).run P w1 = .ok .skip (T w1) ∧ (∀ e ∈ (execOp a.eval o).events P w1 #[], EvOk r σ.sy true w1.heap.size (T w1).heap.size e) ∧ Turn r.wr w1 (T w1))
    (hT : ∀ w1, Rely r w w1 → σ.iv ty w1 → ME P ty Post σ d (r.new w1.heap.size (T w1).heap.size) (G (b.at (a.put o.dst undef) (.inRegion ops rest :: k)) cs) (T w1)) :
    ME P ty Post σ d r (G (b.at a (.inRegion ops (i :: rest) :: k)) cs) w :=
  ME.silent rfl fun w1 h1 hi => ⟨_, T w1, _, by rw [stepG_none ho hg hk (h w1 h1).1], ⟨(h w1 h1).2.2, fun e he => (h w1 h1).2.1 e (mem_listed he)⟩, hT w1 h1 hi⟩
/-- an operation that reads -/
theorem me_rd (ho : ops[i]? = some o) (hg : Region.wanted o (yielded ops a.tmps) = true) (hk : b.kind ≠ .early) {v : Value}
    (h : ∀ w1, Rely r w w1 → (execOp a.eval o).run P w1 = .ok (.value v) w1 ∧ (∀ e ∈ (execOp a.eval o).events P w1 #[], EvOk r σ.sy true w1.heap.size w1.heap.size e))
    (hT : ME P ty Post σ d r (G (b.at (a.put o.dst v) (.inRegion ops rest :: k)) cs) w) :
    ME P ty Post σ d r (G (b.at a (.inRegion ops (i :: rest) :: k)) cs) w :=
  me_gen ho hg hk (T := fun w1 => w1) (fun w1 h1 => ⟨(h w1 h1).1, (h w1 h1).2, Turn.refl _ _⟩) fun w1 h1 _ => by rw [new_self]; exact hT.rely h1
section entry
variable {f : FuncId} {fn : Func} {e : Array Value → Sem Value}
/-- what a call of an entry does -/
theorem entry_run {ats : Array TypeId} {xs : Array Operand} (hop : o.op = .call { callee := .value (.func f), args := xs, argTypes := ats }) (hf : P.funcs[f]? = some fn) (hname : (fn.name == "runtime.NumGoroutine") = false) (hb : fn.body.isNone = true) (hn : Extern.findNext fn = none) (he : Extern.find fn = some e)
    {w' : World} {v : Value} (hr : (e (xs.map a.eval)).run P w = .ok v w') : (execOp a.eval o).run P w = .ok (.value v) w' := by
  rw [execOp_call_func hop, run_callFunc_extern hf hname hb hn he, hr]; rfl
theorem entry_events {ats : Array TypeId} {xs : Array Operand} (hop : o.op = .call { callee := .value (.func f), args := xs, argTypes := ats }) (hf : P.funcs[f]? = some fn) (hname : (fn.name == "runtime.NumGoroutine") = false) (hb : fn.body.isNone = true) (hn : Extern.findNext fn = none) (he : Extern.find fn = some e) :
    (execOp a.eval o).events P w #[] = (e (xs.map a.eval)).events P w #[⟨.mark (.extern f), false, true⟩] := by
  rw [execOp_call_func hop, events_callFunc_extern hf hname hb hn he]; rfl
/-- .. of one that is reached through an interface -/
theorem inv_exec {ats : Array TypeId} {xs : Array Operand} {x : Operand} {name : String} {t : TypeId} {y : Value} (hop : o.op = .call { callee := .invoke x name, args := xs, argTypes := ats }) (hx : a.eval x = .iface t y) :
    execOp a.eval o = callMethod (.iface t y) name (xs.map a.eval) := by
  have e0 : (#[Value.iface t y] ++ Array.map a.eval xs)[0]? = some (.iface t y) := by
    rw [Array.getElem?_append_left (by simp)]; rfl
  have e1 : (Array.map a.eval xs).extract 0 xs.size = Array.map a.eval xs := by
    apply Array.ext_getElem?
    intro i
    simp only [Array.getElem?_extract, Nat.zero_add, Nat.sub_zero, Array.size_map, Nat.min_self]
    split
    · rfl
    · rw [Array.getElem?_eq_none]; simp; omega
  unfold execOp
  simp [hop, resolve, invoke, hx, e0, e1]
theorem inv_run {ats : Array TypeId} {xs : Array Operand} {x : Operand} {name : String} {t : TypeId} {y z : Value} (hop : o.op = .call { callee := .invoke x name, args := xs, argTypes := ats }) (hx : a.eval x = .iface t y)
    (hm : (method (P.types.size + Made.depth) t y name).run P w = .ok (f, z) w) (hf : P.funcs[f]? = some fn) (hname : (fn.name == "runtime.NumGoroutine") = false) (hb : fn.body.isNone = true) (hn : Extern.findNext fn = none) (he : Extern.find fn = some e)
    {w' : World} {v : Value} (hr : (e (#[z] ++ xs.map a.eval)).run P w = .ok v w') : (execOp a.eval o).run P w = .ok (.value v) w' := by
  rw [inv_exec hop hx]
  unfold callMethod
  simp only [Sem.run_bind, run_program, Result.andThen, hm]
  rw [run_callFunc_extern hf hname hb hn he, hr]; rfl
theorem inv_events {ats : Array TypeId} {xs : Array Operand} {x : Operand} {name : String} {t : TypeId} {y z : Value} (hop : o.op = .call { callee := .invoke x name, args := xs, argTypes := ats }) (hx : a.eval x = .iface t y)
    (hm : (method (P.types.size + Made.depth) t y name).run P w = .ok (f, z) w) (hme : (method (P.types.size + Made.depth) t y name).events P w #[] = #[]) (hf : P.funcs[f]? = some fn) (hname : (fn.name == "runtime.NumGoroutine") = false) (hb : fn.body.isNone = true) (hn : Extern.findNext fn = none) (he : Extern.find fn = some e) :
    (execOp a.eval o).events P w #[] = (e (#[z] ++ xs.map a.eval)).events P w #[⟨.mark (.extern f), false, true⟩] := by
  rw [inv_exec hop hx]
  unfold callMethod
  simp only [Sem.events_bind, run_program, events_program, Result.evThen_ok, hm, hme]
  rw [events_callFunc_extern hf hname hb hn he]; rfl
theorem evok_one {S : Loc → Prop} {main : Bool} {n n' : Nat} {es : Array Event} (h : es = #[⟨.mark (.extern f), false, true⟩]) : ∀ x ∈ es, EvOk r S main n n' x := fun x hx => by
  subst h
  simp only [List.mem_toArray, List.mem_cons, List.not_mem_nil, or_false] at hx
  subst hx
  exact evok_mark f
/-- a call of an entry that touches nothing -/
theorem me_ent {ats : Array TypeId} {xs : Array Operand} {vs : Array Value} {v : Value} (ho : ops[i]? = some o) (hg : Region.wanted o (yielded ops a.tmps) = true) (hk : b.kind ≠ .early) (hop : o.op = .call { callee := .value (.func f), args := xs, argTypes := ats }) (hf : P.funcs[f]? = some fn) (hname : (fn.name == "runtime.NumGoroutine") = false) (hb : fn.body.isNone = true) (hn : Extern.findNext fn = none) (he : Extern.find fn = some e)
    (hvs : xs.map a.eval = vs) (hr : ∀ w : World, (e vs).run P w = .ok v w) (hev : ∀ w : World, (e vs).events P w #[⟨.mark (.extern f), false, true⟩] = #[⟨.mark (.extern f), false, true⟩])
    (hT : ME P ty Post σ d r (G (b.at (a.put o.dst v) (.inRegion ops rest :: k)) cs) w) : ME P ty Post σ d r (G (b.at a (.inRegion ops (i :: rest) :: k)) cs) w :=
  me_rd ho hg hk (fun w1 h1 => ⟨entry_run hop hf hname hb hn he (by rw [hvs]; exact hr w1), evok_one (f := f) (by rw [entry_events hop hf hname hb hn he, hvs]; exact hev w1)⟩) hT
/-- .. through an interface -/
theorem me_inv {ats : Array TypeId} {xs : Array Operand} {vs : Array Value} {x : Operand} {name : String} {t : TypeId} {y z v : Value} (ho : ops[i]? = some o) (hg : Region.wanted o (yielded ops a.tmps) = true) (hk : b.kind ≠ .early) (hop : o.op = .call { callee := .invoke x name, args := xs, argTypes := ats }) (hx : a.eval x = .iface t y)
    (hm : ∀ w : World, (method (P.types.size + Made.depth) t y name).run P w = .ok (f, z) w) (hme : ∀ w : World, (method (P.types.size + Made.depth) t y name).events P w #[] = #[]) (hf : P.funcs[f]? = some fn) (hname : (fn.name == "runtime.NumGoroutine") = false) (hb : fn.body.isNone = true) (hn : Extern.findNext fn = none) (he : Extern.find fn = some e)
    (hvs : xs.map a.eval = vs) (hr : ∀ w : World, (e (#[z] ++ vs)).run P w = .ok v w) (hev : ∀ w : World, (e (#[z] ++ vs)).events P w #[⟨.mark (.extern f), false, true⟩] = #[⟨.mark (.extern f), false, true⟩])
    (hT : ME P ty Post σ d r (G (b.at (a.put o.dst v) (.inRegion ops rest :: k)) cs) w) : ME P ty Post σ d r (G (b.at a (.inRegion ops (i :: rest) :: k)) cs) w :=
  me_rd ho hg hk (fun w1 h1 => ⟨inv_run hop hx (hm w1) hf hname hb hn he (by rw [hvs]; exact hr w1), evok_one (f := f) (by rw [inv_events hop hx (hm w1) (hme w1) hf hname hb hn he, hvs]; exact hev w1)⟩) hT
end entry
end
end Cr
