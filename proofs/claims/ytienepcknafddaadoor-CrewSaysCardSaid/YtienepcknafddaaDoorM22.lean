/- WALK: crew.Sort's worker in company: the plain part. · WALK: crew.Sort's worker in company: its region. · WALK: crew.Sort's worker in company: its region, walked. · PLAIN LAW of the library: a worker's deferred Done, in whatever company (no program text in sight). · WALKS: which numbers package sync's functions and types bear in this program. -/
import Derived.Test.YtienepcknafddaaDoorM12
import Derived.Test.YtienepcknafddaaDoorM21
import Derived.Test.YtienepcknafddaaDoorM20
import Derived.Conc.MuWords
import Derived.Test.YtienepcknafddaaDoorChecked
import Derived.Test.YtienepcknafddaaDoorM1
import Derived.Conc.WgGenN3
set_option linter.unusedVariables false
set_option linter.unusedSimpArgs false
section
set_option linter.unusedVariables false
set_option linter.unusedVariables false
set_option linter.unusedSimpArgs false
namespace Go.Proofs.YtienepcknafddaaDoor
open Go Go.RowKit Go.Conc Co Cr SimPlain HeapPlain SymPlain

/-- a region whose last operation is stepped by hand -/
noncomputable def ogOf (l : List Oper) (n : Nat) : Array Oper := ((l.take n) ++ (l.drop n).map nop).toArray
theorem ogOf_same {l : List Oper} {n : Nat} (hl : l.length = n + 1) (i : Nat) (hi : i ≠ n) : (ogOf l n)[i]? = l.toArray[i]? := by
  simp only [ogOf, List.getElem?_toArray]
  rw [List.getElem?_append]
  rcases Nat.lt_or_ge i n with c | c
  · rw [if_pos (by simp; omega), List.getElem?_take_of_lt c]
  · rw [if_neg (by simp; omega), List.getElem?_eq_none (by simp; omega), List.getElem?_eq_none (by omega)]
theorem ogOf_at {l : List Oper} {n : Nat} (hl : l.length = n + 1) : (ogOf l n)[n]? = (l[n]?).map nop := by
  simp only [ogOf, List.getElem?_toArray]
  rw [List.getElem?_append_right (by simp; omega)]
  simp [hl]
theorem spOk_last {l : List Oper} {n : Nat} {o : Oper} {o1 o2 : List Nat} (hl : l.length = n + 1) (ho : l[n]? = some o) (hd : o.dst = none) (h1 : topo .text (ogOf l n) [] o1 = true) (h2 : topo .gc (ogOf l n) [] o2 = true) (h3 : topo .any (ogOf l n) [] o1 = true)
    (c1 : ∀ i, i < n + 1 → i ∈ o1) (c2 : ∀ i ∈ o1, i < n + 1) (d1 : ∀ i, i < n + 1 → i ∈ o2) (d2 : ∀ i ∈ o2, i < n + 1) : SpOk n (ogOf l n) l.toArray := by
  have hsz : (ogOf l n).size = n + 1 := by simp [ogOf, hl]
  refine ⟨by rw [hsz]; simp [hl], fun i hi => ogOf_same hl i hi, fun mixed t => schedule_all h1 h2 (by rw [hsz]; exact c1) (by rw [hsz]; exact c2) (by rw [hsz]; exact d1) (by rw [hsz]; exact d2) h3 mixed t (by omega), ⟨nop o, .bool true, by rw [ogOf_at hl, ho]; rfl, rfl⟩, fun i => ?_⟩
  by_cases hi : i = n
  · subst hi
    rw [ogOf_at hl, List.getElem?_toArray, ho]
    simp only [Option.map_some, nop, hd]
  · rw [ogOf_same hl i hi]
theorem ops10_len : ops10.length = 22 + 1 := by kernel_rfl
theorem og10_eq : og10 = ogOf ops10 22 := rfl
theorem topo10a : topo .text (ogOf ops10 22) [] (List.range 23) = true := by kernel_rfl
theorem topo10b : topo .any (ogOf ops10 22) [] (List.range 23) = true := by kernel_rfl
theorem topo10c : topo .gc (ogOf ops10 22) [] [0, 1, 2, 3, 4, 5, 6, 7, 8, 9, 10, 11, 12, 13, 14, 15, 16, 17, 18, 19, 21, 22, 20] = true := by kernel_rfl
noncomputable def op22 : Oper := ops10.getD 22 default
theorem op22_at : ops10[22]? = some op22 := by kernel_rfl
theorem op22_dst : op22.dst = none := by kernel_rfl
theorem op22_op : op22.op = .store 22 (.tmp 26) (.tmp 24) := by kernel_rfl
theorem op22_guard : op22.guard = none := by kernel_rfl
theorem sp10 : SpOk 22 og10 ops10.toArray := by
  rw [og10_eq]
  exact spOk_last ops10_len op22_at op22_dst topo10a topo10c topo10b (by decide) (by decide) (by decide) (by decide)

/-- what the worker's region has made, but for the store -/
def RelW (C k : Nat) (part : List Ev) (t : Array Value) (w : World) : Prop := ∃ g c W, SoR part g c W w ∧ t[24]? = some (.slice g W.length c) ∧ t[26]? = some (.pointer (some ⟨C, k, none⟩)) ∧ ∃ x y, t[5]? = some (.tuple #[x, y])
theorem VR.int_eq {ok : FuncId → Prop} {ρ : Ren} {k : IntKind} {n : Int} {v : Value} (h : VR ok ρ (.int k n) v) : v = .int k n := by cases h; rfl
theorem EvA.carry {ok : FuncId → Prop} {ρ : Ren} {w w' : World} (hw : WR ok ρ w w') {b off : Nat} {l : List Ev} (h : EvA w (some ⟨b, off, none⟩) l) (hd : ρ.dom b) : EvA w' (some ⟨ρ.to b, off, none⟩) l := by
  rcases h with h | ⟨b', off', e, h1, h2⟩
  · exact .inl h
  · simp only [Option.some.injEq, Addr.mk.injEq, and_true] at e
    obtain ⟨rfl, rfl⟩ := e
    refine .inr ⟨_, _, rfl, (hw.lt hd).2, fun i hi => ?_⟩
    obtain ⟨c1, c2⟩ := h2 i hi
    obtain ⟨v1, e1, r1⟩ := hw.cell (a := ⟨b, off + i * 2, none⟩) ⟨hd, rfl⟩ c1
    obtain ⟨v2, e2, r2⟩ := hw.cell (a := ⟨b, off + i * 2 + 1, none⟩) ⟨hd, rfl⟩ c2
    rw [VR.int_eq r1] at e1
    rw [VR.int_eq r2] at e2
    exact ⟨e1, e2⟩
theorem CellsAt.carry {ok : FuncId → Prop} {ρ : Ren} {w w' : World} (hw : WR ok ρ w w') {b : Nat} (h : CellsAt w b) (hd : ρ.dom b) : CellsAt w' (ρ.to b) := by
  obtain ⟨c, t, fr, e⟩ := h
  have := hw.blk b hd
  rw [e] at this
  generalize hx : w'.heap[ρ.to b]? = x at this
  cases this with
  | cells t h1 h2 => exact ⟨_, _, _, hx⟩
theorem SoR.carry {ok : FuncId → Prop} {ρ : Ren} {w w' : World} (hw : WR ok ρ w w') {part W : List Ev} {g : Option Addr} {c n : Nat} {v : Value} (h : SoR part g c W w) (hv : VR ok ρ (.slice g n c) v) : ∃ g', v = .slice g' n c ∧ SoR part g' c W w' ∧ ∀ b, g = some ⟨b, 0, none⟩ → ρ.dom b ∧ g' = some ⟨ρ.to b, 0, none⟩ := by
  cases hv with
  | slNil =>
    refine ⟨none, rfl, ⟨h.perm, h.lt, ?_, ?_, h.cap, fun b e => by cases e⟩, fun b e => by cases e⟩
    · rcases h.at_ with c | ⟨_, _, c, _⟩
      · exact .inl c
      · cases c
    · rcases h.shape with c | ⟨_, c⟩
      · exact .inl c
      · cases c
  | sl _ _ ha =>
    rcases h.shape with ⟨c, _⟩ | ⟨b, e⟩
    · cases c
    · obtain rfl := Option.some.inj e
      obtain ⟨hd, rfl⟩ := ha
      refine ⟨_, rfl, ⟨h.perm, h.lt, h.at_.carry hw hd, .inr ⟨_, rfl⟩, h.cap, fun b' e' => ?_⟩, fun b' e' => ?_⟩
      · simp only [Option.some.injEq, Addr.mk.injEq, and_true] at e'
        subst e'
        exact (h.ex b rfl).carry hw hd
      · simp only [Option.some.injEq, Addr.mk.injEq, and_true] at e'
        subst e'
        exact ⟨hd, rfl⟩
theorem relW_carried {ρ0 : Ren} {C k : Nat} {part : List Ev} (hC : ρ0.dom C) (hto : ρ0.to C = C) : Carried cwL Tryd.prog ρ0 (RelW C k part) := by
  rintro ρ t t' w w' hx _ ht hw ⟨g, c, W, hs, h24, h26, x, y, h5⟩
  obtain ⟨v, e24, r24⟩ := ht.get h24
  obtain ⟨g', rfl, hs', _⟩ := hs.carry hw r24
  obtain ⟨v, e26, r26⟩ := ht.get h26
  obtain ⟨v, e5, r5⟩ := ht.get h5
  refine ⟨g', c, W, hs', e24, ?_, ?_⟩
  · cases r26 with
    | ptr ha =>
      obtain ⟨_, rfl⟩ := ha
      rw [e26]
      simp only [(hx.at_ C hC).2, hto]
  · cases r5 with
    | @tuple _ c' hsz _ =>
      rw [e5]
      obtain ⟨l⟩ := c'
      match l, hsz with
      | [a, b], _ => exact ⟨a, b, rfl⟩
/-- the worker's piece of work, done -/
def JW (C k : Nat) (part : List Ev) : Jb := fun _ q w => ∃ g c W, SoR part g c W w ∧ w.cell? ⟨C, k, none⟩ = some (.slice g W.length c) ∧ (∀ s, q.rd (.cell ⟨C, k, s⟩)) ∧ (W ≠ [] → ∀ b, g = some ⟨b, 0, none⟩ → q.rd (.obj b) ∧ ∀ a : Addr, a.block = b → q.rd (.cell a)) ∧ ∀ b, g = some ⟨b, 0, none⟩ → Tryd.prog.globals.size ≤ b
theorem CellsAt.turn {X : Loc → Prop} {w w1 : World} {b : Nat} (h : CellsAt w b) (k : Turn X w w1) : CellsAt w1 b := by
  obtain ⟨c, t, fr, e⟩ := h
  rcases k.blk b (Array.getElem?_eq_some_iff.1 e).1 with k | ⟨_, k, _⟩
  · rcases k with k | ⟨x, y, t', fr', e1, e2, e3, _⟩
    · exact ⟨c, t, fr, k.trans e⟩
    · exact ⟨y, t', fr', e2⟩
  · rw [e] at k; exact k.elim
theorem SoR.rely {q : Rts} {w w1 : World} {part W : List Ev} {g : Option Addr} {c : Nat} (h : SoR part g c W w) (hr : W ≠ [] → ∀ b, g = some ⟨b, 0, none⟩ → ∀ a : Addr, a.block = b → q.rd (.cell a)) (k : Rely q w w1) : SoR part g c W w1 := by
  refine ⟨h.perm, h.lt, ?_, h.shape, h.cap, fun b e => (h.ex b e).turn k⟩
  rcases h.at_ with e | ⟨b, off, e, h1, h2⟩
  · exact .inl e
  · by_cases hW : W = []
    · exact .inl hW
    · rcases h.shape with ⟨e', _⟩ | ⟨b', e'⟩
      · rw [e] at e'; cases e'
      · rw [e] at e'
        simp only [Option.some.injEq, Addr.mk.injEq, and_true] at e'
        obtain ⟨rfl, rfl⟩ := e'
        have hrd := hr hW b e
        exact .inr ⟨b, 0, e, Nat.lt_of_lt_of_le h1 k.size, fun i hi => ⟨k.cell (h2 i hi).1 (hrd _ rfl), k.cell (h2 i hi).2 (hrd _ rfl)⟩⟩
theorem JW.st (C k : Nat) (part : List Ev) : JSt (JW C k part) := by
  rintro v q w w1 ⟨g, c, W, h1, h2, h3, h4, h5⟩ hk
  exact ⟨g, c, W, h1.rely (fun a b e => (h4 a b e).2) hk, hk.cell h2 (h3 _), h3, h4, h5⟩
end Go.Proofs.YtienepcknafddaaDoor
end

section
set_option linter.unusedVariables false
set_option linter.unusedVariables false
set_option linter.unusedSimpArgs false
namespace Go.Proofs.YtienepcknafddaaDoor
open Go Go.RowKit Go.Conc Co Cr SimPlain HeapPlain SymPlain

theorem after22 : ((List.range 20 ++ [21]).all fun j => op22.after.any fun e => e.on == j && Region.binds .any e) = true := by kernel_rfl
theorem og10_22 : og10[22]? = some (nop op22) := by rw [og10_eq, ogOf_at ops10_len, op22_at]; rfl
theorem og10_size : og10.size = 23 := by rw [sp10.size]; simp [ops10_len]
theorem rest_only {rest : List Nat} (h : OrdInv og10 (22 :: rest)) : ∀ j ∈ rest, j = 20 := fun j hj => by
  obtain ⟨x, h1, h2, _⟩ := h.behind (by rw [og10_size]; omega)
  have hlt := h.lt j (by simp [hj])
  rw [og10_size] at hlt
  obtain ⟨a1, a2⟩ := h1 j hj
  apply Classical.byContradiction
  intro hne
  have hm : j ∈ List.range 20 ++ [21] := by
    simp only [List.mem_append, List.mem_range, List.mem_cons, List.not_mem_nil, or_false]; omega
  have := (List.all_eq_true.1 after22) j hm
  obtain ⟨e, he, hb⟩ := Array.any_eq_true'.1 this
  simp only [Bool.and_eq_true, beq_iff_eq] at hb
  have := h2 _ og10_22 e he hb.2
  rw [hb.1, a1] at this
  cases this
theorem rest_cases {rest : List Nat} (h : OrdInv og10 (22 :: rest)) : rest = [] ∨ rest = [20] := by
  have hr := rest_only h
  match rest, hr, h with
  | [], _, _ => exact .inl rfl
  | [a], hr, _ => exact .inr (by rw [hr a (by simp)])
  | a :: b :: l, hr, h =>
    have ea := hr a (by simp)
    have eb := hr b (by simp)
    subst ea
    obtain ⟨x, h1, _⟩ := h.tail.behind (by rw [og10_size]; omega)
    exact absurd eb (h1 b (by simp)).2
noncomputable def op20 : Oper := ops10.getD 20 default
theorem op20_at : ops10[20]? = some op20 := by kernel_rfl
theorem op20_op : op20.op = .extract (.tmp 5) 1 := by kernel_rfl
theorem op20_dst : op20.dst = some 25 := by kernel_rfl
theorem op20_guard : op20.guard = none := by kernel_rfl
theorem og10_20 : og10[20]? = some op20 := by rw [og10_eq, ogOf_same ops10_len 20 (by omega), List.getElem?_toArray]; exact op20_at
theorem relW_tail {C k : Nat} {part : List Ev} {f : FuncId} {tg : Array Value} {ws : World} {rest : List Nat} (h : Fin Tryd.prog (RelW C k part) ⟨mkF f tg [.inRegion og10 rest] .run, [], ws⟩) (hr : rest = [] ∨ rest = [20]) : RelW C k part tg ws := by
  rcases hr with rfl | rfl
  · exact tail_nil h
  · obtain ⟨v, g, c, W, h1, h2, h3, x, y, h4⟩ := tail_one og10_20 op20_op op20_dst op20_guard h
    rw [Array.getElem?_setIfInBounds_ne (by omega)] at h2 h3 h4
    exact ⟨g, c, W, h1, h2, h3, x, y, h4⟩
/-- the record of the worker -/
def b10 (kd : CallKind) : Frame := { fn := 13, tmps := #[], todo := [], defers := [], mode := .run, kind := kd }
theorem loud10 : (Tryd.prog.funcs[13]?).any (·.norace) = false := by kernel_rfl
theorem wanted_none {o : Oper} (h : o.guard = none) (y : Nat → Option Bool) : Region.wanted o y = true := by unfold Region.wanted; rw [h]
theorem store22 {m : Bool} {kd : CallKind} (hkd : kd ≠ .early) {t : Array Value} {ds : List Deferred} {rest : List Nat} {base : List Frame} {w : World} {C k : Nat} {g : Option Addr} {n c : Nat} (h24 : t[24]? = some (.slice g n c)) (h26 : t[26]? = some (.pointer (some ⟨C, k, none⟩))) (hrow : Cr.Row w C k) :
    stepG Tryd.prog m (G ((b10 kd).at ⟨t, ds⟩ [.inRegion ops10.toArray (22 :: rest)]) base) w = .go (G ((b10 kd).at ⟨t, ds⟩ [.inRegion ops10.toArray rest]) base) (w.setCell ⟨C, k, none⟩ (.slice g n c)) #[⟨.cell ⟨C, k, none⟩, true, false⟩] := by
  obtain ⟨u, hc⟩ := hrow.cell
  have hz := hrow.thaw
  have hx : (⟨t, ds⟩ : Act).eval (.tmp 26) = .pointer (some ⟨C, k, none⟩) := by simp [Act.eval, h26]
  have hy : (⟨t, ds⟩ : Act).eval (.tmp 24) = .slice g n c := by simp [Act.eval, h24]
  have hr : (execOp (⟨t, ds⟩ : Act).eval op22).run Tryd.prog w = .ok .skip (w.setCell ⟨C, k, none⟩ (.slice g n c)) := by
    unfold execOp
    simp only [op22_op, hx, hy]
    simp [go_sem, stored, hc, hz]
  have he : (execOp (⟨t, ds⟩ : Act).eval op22).events Tryd.prog w #[] = #[⟨.cell ⟨C, k, none⟩, true, false⟩] := by
    unfold execOp
    simp only [op22_op, hx, hy]
    have hev := events_store Tryd.prog w #[] ⟨C, k, none⟩ (.slice g n c) .plain rfl
    simp [go_sem, hev, storedEv, hc, hz]
  rw [stepG_none (o := op22) (by rw [List.getElem?_toArray]; exact op22_at) (wanted_none op22_guard _) hkd hr]
  unfold listed
  rw [he, op22_dst, show (b10 kd).fn = 13 from rfl, Go.Conc.seen_eq loud10 (by simp)]
  rfl
theorem extract20 {m : Bool} {kd : CallKind} (hkd : kd ≠ .early) {t : Array Value} {ds : List Deferred} {rest : List Nat} {base : List Frame} {w : World} {x y : Value} (h5 : t[5]? = some (.tuple #[x, y])) :
    stepG Tryd.prog m (G ((b10 kd).at ⟨t, ds⟩ [.inRegion ops10.toArray (20 :: rest)]) base) w = .go (G ((b10 kd).at ⟨t.setIfInBounds 25 y, ds⟩ [.inRegion ops10.toArray rest]) base) w #[] := by
  have hx : (⟨t, ds⟩ : Act).eval (.tmp 5) = .tuple #[x, y] := by simp [Act.eval, h5]
  have hr : (execOp (⟨t, ds⟩ : Act).eval op20).run Tryd.prog w = .ok (.value y) w := by
    unfold execOp
    simp only [op20_op, hx]
    simp [go_sem]
  have he : (execOp (⟨t, ds⟩ : Act).eval op20).events Tryd.prog w #[] = #[] := by
    unfold execOp
    simp only [op20_op, hx]
    simp [go_sem]
  rw [stepG_value (o := op20) (by rw [List.getElem?_toArray]; exact op20_at) (wanted_none op20_guard _) hkd hr]
  unfold listed
  rw [he, op20_dst]
  simp [Act.put, seen]
end Go.Proofs.YtienepcknafddaaDoor
end

section
set_option linter.unusedVariables false
set_option linter.unusedVariables false
set_option linter.unusedSimpArgs false
namespace Go.Proofs.YtienepcknafddaaDoor
open Go Go.RowKit Go.Conc Co Cr SimPlain HeapPlain SymPlain

/-- the worker's rights -/
structure WkR (r : Rts) (L K H Q b C k : Nat) : Prop where
  rd : ∀ a : Addr, (a.block = L ∨ a.block = K ∨ a.block = H ∨ a.block = Q ∨ a.block = b) → r.rd (.cell a)
  obj : ∀ B, (B = L ∨ B = K ∨ B = H ∨ B = Q ∨ B = b) → r.rd (.obj B)
  rdC : ∀ s, r.rd (.cell ⟨C, k, s⟩)
  wrC : ∀ s, r.wr (.cell ⟨C, k, s⟩)
/-- what the worker knows of the world -/
structure WkW (w : World) (A : Option Addr) (b off N cap k h C L K H Q lo : Nat) (part : List Ev) : Prop where
  hA : A = some ⟨b, off, none⟩ ∨ (A = none ∧ N = 0 ∧ cap = 0)
  hL : w.cell? ⟨L, 0, none⟩ = some (.slice A N cap)
  hK : w.cell? ⟨K, 0, none⟩ = some (.int .i64 k)
  hH : w.cell? ⟨H, 0, none⟩ = some (.int .i64 h)
  hQ : w.cell? ⟨Q, 0, none⟩ = some (.slice (some ⟨C, 0, none⟩) h h)
  hE : EvA w (some ⟨b, off + lo * 2, none⟩) part
  hb : ∃ c t fr, w.heap[b]? = some (.cells c t fr)
  row : Cr.Row w C k
  nL : C ≠ L
  nK : C ≠ K
  nH : C ≠ H
  nQ : C ≠ Q
  nb : C ≠ b
  gl : ∀ B, (B = L ∨ B = K ∨ B = H ∨ B = Q ∨ B = b ∨ B = C) → Tryd.prog.globals.size ≤ B
/-- the numbers -/
structure WkN (N cap k h lo hi : Nat) (part : List Ev) : Prop where
  hh : 1 ≤ h
  hk : k < h
  h6 : h ≤ 6
  hN : N ≤ 60
  hlo : lo = k * N / h
  hhi : hi = (k + 1) * N / h
  hlh : lo ≤ hi
  hhN : hi ≤ N
  hNc : N ≤ cap
  hp : part.length = hi - lo
  hok : chkI part = 0
  hbef : part.Pairwise Bef
section
variable {r : Rts} {w : World} {A : Option Addr} {b off N cap k h C L K H Q lo hi : Nat} {part : List Ev}
theorem CellsAt.set {w : World} {b : Nat} (h : CellsAt w b) (a : Addr) (v : Value) : CellsAt (w.setCell a v) b := by
  obtain ⟨c, t, fr, e⟩ := h
  by_cases hab : b = a.block
  · obtain ⟨ab, ao, sp⟩ := a
    simp only at hab
    subst hab
    cases sp with
    | none => exact ⟨c.setIfInBounds ao v, t, fr, by simp [World.setCell, Array.getElem?_modify, e]⟩
    | some x => exact ⟨c, t, fr, by simp [World.setCell, Array.getElem?_modify, e]⟩
  · exact ⟨c, t, fr, by rw [Below.heap_setCell _ _ _ _ hab]; exact e⟩
theorem JW.store {q : Rts} {W : List Ev} {g : Option Addr} {c : Nat} (hs : SoR part g c W w) (hrow : Cr.Row w C k) (hC : ∀ s, q.rd (.cell ⟨C, k, s⟩)) (hg : W ≠ [] → ∀ b, g = some ⟨b, 0, none⟩ → b ≠ C ∧ q.rd (.obj b) ∧ ∀ a : Addr, a.block = b → q.rd (.cell a)) (hgl : ∀ b, g = some ⟨b, 0, none⟩ → Tryd.prog.globals.size ≤ b) : JW C k part undef q (w.setCell ⟨C, k, none⟩ (.slice g W.length c)) := by
  refine ⟨g, c, W, ⟨hs.perm, hs.lt, ?_, hs.shape, hs.cap, fun b e => (hs.ex b e).set _ _⟩, hrow.set _, hC, fun hW b e => ⟨(hg hW b e).2.1, (hg hW b e).2.2⟩, hgl⟩
  rcases hs.at_ with e | ⟨b, o, e, h1, h2⟩
  · exact .inl e
  · by_cases hW : W = []
    · exact .inl hW
    · rcases hs.shape with ⟨e', _⟩ | ⟨b', e'⟩
      · rw [e] at e'; cases e'
      · rw [e] at e'
        simp only [Option.some.injEq, Addr.mk.injEq, and_true] at e'
        obtain ⟨rfl, rfl⟩ := e'
        have hne := (hg hW b e).1
        have key : ∀ a : Addr, a.block = b → (w.setCell ⟨C, k, none⟩ (.slice g W.length c)).cell? a = w.cell? a := fun a ha => World.cell?_of_block (heap_setCell_other w ⟨C, k, none⟩ a.block _ (by rw [ha]; exact fun c => hne c))
        exact .inr ⟨b, 0, e, by rw [size_setCell]; exact h1, fun i hi => ⟨(key _ rfl).trans (h2 i hi).1, (key _ rfl).trans (h2 i hi).2⟩⟩
section
variable {ty : TypeId} {Iv : World → Prop} {Wg c : Nat} {J : Jb} {ph : WPh}
set_option maxRecDepth 100000 in
theorem work_region (hn : WkN N cap k h lo hi part) (hr : WkR r L K H Q b C k) (hw : WkW w A b off N cap k h C L K H Q lo part) (hl : ph.live) {kd : CallKind} (hkd : kd ≠ .early) {ds : List Deferred} {base : List Frame} (X : Value)
    (hend : ∀ (t' : Array Value) (r' : Rts) (w1 : World), JW C k part undef r' w1 → Iv w1 → WkE Tryd.prog ty Iv Wg c J ph r' (G ((b10 kd).at ⟨t', ds⟩ []) base) w1) :
    WkE Tryd.prog ty Iv Wg c J ph r (G ((b10 kd).at ⟨#[X, .pointer (some ⟨L, 0, none⟩), .pointer (some ⟨K, 0, none⟩), .pointer (some ⟨H, 0, none⟩), .pointer (some ⟨Q, 0, none⟩), undef, undef, undef, undef, undef, undef, undef, undef, undef, undef, undef, undef, undef, undef, undef, undef, undef, undef, undef, undef, undef, undef], ds⟩ [.code (.region 1 ops10.toArray true)]) base) w := by
  let D : Nat → Prop := fun B => B = L ∨ B = K ∨ B = H ∨ B = Q ∨ B = b ∨ B = C
  let S : Nat → Prop := fun B => B = C
  let M : Nat → Prop := fun _ => False
  have dL : (gr Tryd.prog w D S M).dom L := ⟨.inl rfl, hw.gl _ (.inl rfl), cell_block hw.hL⟩
  have dK : (gr Tryd.prog w D S M).dom K := ⟨.inr (.inl rfl), hw.gl _ (.inr (.inl rfl)), cell_block hw.hK⟩
  have dH : (gr Tryd.prog w D S M).dom H := ⟨.inr (.inr (.inl rfl)), hw.gl _ (.inr (.inr (.inl rfl))), cell_block hw.hH⟩
  have dQ : (gr Tryd.prog w D S M).dom Q := ⟨.inr (.inr (.inr (.inl rfl))), hw.gl _ (.inr (.inr (.inr (.inl rfl)))), cell_block hw.hQ⟩
  have db : (gr Tryd.prog w D S M).dom b := ⟨.inr (.inr (.inr (.inr (.inl rfl)))), hw.gl _ (.inr (.inr (.inr (.inr (.inl rfl))))), hw.hb⟩
  have dC : (gr Tryd.prog w D S M).dom C := ⟨.inr (.inr (.inr (.inr (.inr rfl)))), hw.gl _ (.inr (.inr (.inr (.inr (.inr rfl))))), let ⟨c, t, fr, h1, _⟩ := hw.row; ⟨c, t, fr, h1⟩⟩
  have hcov : Cov (gr Tryd.prog w D S M) r := by
    refine ⟨fun B hB hS a ha => ?_, fun B hB hS => ?_, fun B i hB hm => ?_⟩
    · have hD : D B := hB.1
      have hS' : ¬ B = C := hS
      have ha' : a.block = B := ha
      apply hr.rd
      rw [ha']
      rcases hD with h | h | h | h | h | h
      · exact .inl h
      · exact .inr (.inl h)
      · exact .inr (.inr (.inl h))
      · exact .inr (.inr (.inr (.inl h)))
      · exact .inr (.inr (.inr (.inr h)))
      · exact absurd h hS'
    · have hD : D B := hB.1
      have hS' : ¬ B = C := hS
      apply hr.obj
      rcases hD with h | h | h | h | h | h
      · exact .inl h
      · exact .inr (.inl h)
      · exact .inr (.inr (.inl h))
      · exact .inr (.inr (.inr (.inl h)))
      · exact .inr (.inr (.inr (.inr h)))
      · exact absurd h hS'
    · exact absurd hm.1 (fun c => c)
  have hg : Tryd.prog.globals.size ≤ w.heap.size := Nat.le_trans dL.2.1 (Nat.le_of_lt (cell_lt hw.hL))
  refine wk_strS (f := 13) (k := []) cw_funs ⟨_, rfl⟩ hkd sp10 (by kernel_rfl) hg D S M hcov (RelW C k part) (relW_carried dC rfl) hl base (fun T => ?_) fun rest tg t' ρ r' ws W' hh hway => ?_
  · have hvL : VR (· ∈ cwL) (gr Tryd.prog w D S M) (.pointer (some ⟨L, 0, none⟩)) (.pointer (some ⟨L, 0, none⟩)) := .ptr ⟨dL, rfl⟩
    have hvK : VR (· ∈ cwL) (gr Tryd.prog w D S M) (.pointer (some ⟨K, 0, none⟩)) (.pointer (some ⟨K, 0, none⟩)) := .ptr ⟨dK, rfl⟩
    have hvH : VR (· ∈ cwL) (gr Tryd.prog w D S M) (.pointer (some ⟨H, 0, none⟩)) (.pointer (some ⟨H, 0, none⟩)) := .ptr ⟨dH, rfl⟩
    have hvQ : VR (· ∈ cwL) (gr Tryd.prog w D S M) (.pointer (some ⟨Q, 0, none⟩)) (.pointer (some ⟨Q, 0, none⟩)) := .ptr ⟨dQ, rfl⟩
    have hvU : VR (· ∈ cwL) (gr Tryd.prog w D S M) undef undef := undef_vr
    simp only [mrow, List.map_toArray, List.map_cons, List.map_nil, mask_eq hvL, mask_eq hvK, mask_eq hvH, mask_eq hvQ, mask_eq hvU]
    have sz : (on (gh cwL Tryd.prog w D S M) T 0).heap.size = w.heap.size := gw_size
    refine one_wp A b off N cap k h C L K H Q lo hi hw.hA part hn.hh hn.hk hn.h6 hn.hN hn.hlo hn.hhi hn.hlh hn.hhN hn.hNc hn.hp hn.hok hn.hbef (on (gh cwL Tryd.prog w D S M) T 0) _ ?_ ?_ ?_ ?_ ?_ ?_ ?_ ?_ ?_
    · refine gw_cell hw.hL (fun c => hw.nL c.symm) ?_
      rcases hw.hA with e | ⟨e, e1, e2⟩
      · rw [e]; exact .sl _ _ ⟨db, rfl⟩
      · rw [e, e1, e2]; exact .slNil _ _
    · exact gw_cell hw.hK (fun c => hw.nK c.symm) (.int _ _)
    · exact gw_cell hw.hH (fun c => hw.nH c.symm) (.int _ _)
    · exact gw_cell hw.hQ (fun c => hw.nQ c.symm) (.sl _ _ ⟨dC, rfl⟩)
    · rw [sz]; exact cell_lt hw.hL
    · rw [sz]; exact cell_lt hw.hK
    · rw [sz]; exact cell_lt hw.hH
    · rw [sz]; exact cell_lt hw.hQ
    · rcases hw.hE with e | ⟨b', o', e, h1, h2⟩
      · exact .inl e
      · simp only [Option.some.injEq, Addr.mk.injEq, and_true] at e
        obtain ⟨rfl, rfl⟩ := e
        exact .inr ⟨_, _, rfl, by rw [sz]; exact h1, fun i hi => ⟨gw_cell (h2 i hi).1 (fun c => hw.nb c.symm) (.int _ _), gw_cell (h2 i hi).2 (fun c => hw.nb c.symm) (.int _ _)⟩⟩
  · have hrel := relW_tail (hh.next og10_22 rfl rfl op22_guard) (rest_cases hh.ord)
    obtain ⟨_, _, _, _, _, e26, x', y', e5⟩ := relW_carried (part := part) dC rfl ρ tg t' ws W' hh.ext hh.glob hh.tmps hh.wr hrel
    obtain ⟨g, cp, W, hs, h24, _, _, _, _⟩ := hrel
    obtain ⟨v, e24, r24⟩ := hh.tmps.get h24
    obtain ⟨g', rfl, hs', hd⟩ := hs.carry hh.wr r24
    have toC : ρ.to C = C := (hh.ext.at_ C dC).2
    have hgr : W ≠ [] → ∀ b', g' = some ⟨b', 0, none⟩ → b' ≠ C ∧ r'.rd (.obj b') ∧ ∀ a : Addr, a.block = b' → r'.rd (.cell a) := fun hW b' e => by
      rcases hs.at_ with c | ⟨b0, o0, e0, h1, h2⟩
      · exact absurd c hW
      · rcases hs.shape with ⟨c, _⟩ | ⟨b1, e1⟩
        · rw [c] at e0; cases e0
        · rw [e0] at e1
          simp only [Option.some.injEq, Addr.mk.injEq, and_true] at e1
          obtain ⟨rfl, rfl⟩ := e1
          obtain ⟨hd0, hg0⟩ := hd b0 e0
          rw [e] at hg0
          simp only [Option.some.injEq, Addr.mk.injEq, and_true] at hg0
          subst hg0
          have hlen : 0 < W.length := List.length_pos_iff.2 hW
          have hns : ¬ ρ.shut b0 := hh.wr.notShut (a := ⟨b0, 0 + 0 * 2, none⟩) hd0 (h2 0 hlen).1
          refine ⟨fun c => ?_, hway.cov.obj b0 hd0 hns, fun a ha => hway.cov.rd b0 hd0 hns a ha⟩
          have e2 : b0 = C := ρ.inj _ _ hd0 (hh.ext.at_ C dC).1 (c.trans toC.symm)
          subst e2
          exact hns ((hh.ext.shut b0 dC).2 rfl)
    have hgl : ∀ b', g' = some ⟨b', 0, none⟩ → Tryd.prog.globals.size ≤ b' := fun b' e => by
      rcases hs.shape with ⟨c0, c1⟩ | ⟨b1, e1⟩
      · rw [c0] at r24
        cases r24
        cases e
      · obtain ⟨hd0, hg0⟩ := hd b1 e1
        rw [e] at hg0
        simp only [Option.some.injEq, Addr.mk.injEq, and_true] at hg0
        subst hg0
        rcases hway.old b1 hd0 with c | c
        · rw [(hway.ext.at_ b1 c).2]; exact c.2.1
        · exact Nat.le_trans hg c
    have rdC : ∀ s, r'.rd (.cell ⟨C, k, s⟩) := fun s => hway.rd _ (hr.rdC s)
    have wrC : ∀ s, r'.wr (.cell ⟨C, k, s⟩) := fun s => hway.wr _ (hr.wrC s)
    have hrowW : Cr.Row W' C k := hw.row.rely hway.turn
    show WkE _ _ _ _ _ _ _ _ (G ((b10 kd).at ⟨t', ds⟩ [.inRegion ops10.toArray (22 :: rest)]) base) W'
    refine WkE.silent hl rfl fun w1 h1 _ => ⟨_, _, _, store22 hkd e24 e26 (hrowW.rely h1), guar_store (rdC _) (wrC _) rfl (cell_lt (hrowW.rely h1).cell.choose_spec), rfl, ?_⟩
    rw [size_setCell, new_self]
    have hJ := JW.store (q := r') (hs'.rely (fun a b' e => (hgr a b' e).2.2) h1) (hrowW.rely h1) rdC hgr hgl
    generalize w1.setCell ⟨C, k, none⟩ (.slice g' W.length cp) = w2 at hJ
    have hfin : ∀ (t2 : Array Value) (w3 : World), Rely r' w2 w3 → WkE Tryd.prog ty Iv Wg c J ph r' (G ((b10 kd).at ⟨t2, ds⟩ [.inRegion ops10.toArray []]) base) w3 := fun t2 w3 h3 =>
      WkE.silent hl rfl fun w4 h4 hi4 => ⟨_, _, _, stepG_region_end, guar_none _, rfl, by
        rw [new_self]
        exact hend _ _ _ (JW.st C k part _ _ _ _ hJ (h3.trans h4)) hi4⟩
    rcases rest_cases hh.ord with rfl | rfl
    · exact hfin _ _ (Rely.refl _ _)
    · refine WkE.silent hl rfl fun w3 h3 _ => ⟨_, _, _, extract20 hkd e5, guar_none _, rfl, ?_⟩
      rw [new_self]
      exact hfin _ _ h3
end
end
end Go.Proofs.YtienepcknafddaaDoor
end

section
namespace Cr
open Go Go.Conc Go.RowKit Go.Conc.Lib Go.ConcR.Gen Go.ConcN.Gen
open Go.ConcR (KK wgBlock WgAt stA smA rd wr mk DC0)
open Go.ConcN (WgLive ShN)
section
variable {P : Program} {L : WgLink} {Wg : Nat} {J : Jb} {r : Rts}
theorem quits_more : ∀ {n d : Nat} {g : Goroutine}, QuitsD P n d g → QuitsD P (n + 1) d g
  | 0, _, _, h => .inl h
  | n + 1, _, _, h => h.elim .inl fun ⟨hr, g', es, hm, hs, hq⟩ => .inr ⟨hr, g', es, hm, hs, quits_more hq⟩
theorem quits_le {n m d : Nat} {g : Goroutine} (h : QuitsD P n d g) (hl : n ≤ m) : QuitsD P m d g := by
  induction hl with
  | refl => exact h
  | step _ ih => exact quits_more ih
/-- what is known on the way -/
def KW (r : Rts) (Iv : World → Prop) (w0 w : World) : Prop := Rely r w0 w ∧ Iv w
theorem kw_rely {Iv : World → Prop} {w0 w w1 : World} (h : KW r Iv w0 w) (k : RR r Iv w w1) : KW r Iv w0 w1 := ⟨h.1.trans k.1, k.2⟩
variable (P L Wg J) in
def SRel (r : Rts) (g : Goroutine) (w : World) : Prop := g.status = .running ∧ J undef r w ∧ ∃ g', stepG P false g w = .go g' w #[mk (.releaseMerge (stA Wg))] ∧ g'.status = .running ∧ WkE P L.tWg (WgLive L.tWg Wg) Wg 0 J .laid .none g' w
variable (P L Wg J) in
def SDis (g : Goroutine) (w : World) : Prop := g.status = .running ∧ ∃ g', stepG P false g w = .go g' w #[mk .disable] ∧ g'.status = .running ∧ WkE P L.tWg (WgLive L.tWg Wg) Wg 0 J .deaf .none g' w
variable (P L Wg J) in
def SDec (g : Goroutine) (w : World) : Prop := g.status = .running ∧ ∀ v wt : Nat, wt ≤ 1 → v < 2147483647 → WgAt L.tWg Wg w ((v + 1) * KK + wt) 0 → ∃ g', stepG P false g w = .go g' (w.setCell (stA Wg) (.int .u64 (v * KK + wt))) #[rd (stA Wg), wr (stA Wg)] ∧
    ((v = 0 ∧ wt = 1) → g'.status = .running ∧ WkE P L.tWg (WgLive L.tWg Wg) Wg 0 J .n2 .none g' (w.setCell (stA Wg) (.int .u64 (v * KK + wt)))) ∧ (¬ (v = 0 ∧ wt = 1) → ∃ q, QuitsD P q 1 g')
variable (P L Wg J) in
def SD2 (g : Goroutine) (w : World) : Prop := g.status = .running ∧ (WgAt L.tWg Wg w 1 0 → ∃ g', stepG P false g w = .go g' w #[rd (stA Wg)] ∧ g'.status = .running ∧ WkE P L.tWg (WgLive L.tWg Wg) Wg 0 J .n3 .none g' w)
variable (P L Wg J) in
def SD3 (g : Goroutine) (w : World) : Prop := g.status = .running ∧ (WgAt L.tWg Wg w 1 0 → ∃ g', stepG P false g w = .go g' (w.setCell (stA Wg) (.int .u64 0)) #[wr (stA Wg)] ∧ g'.status = .running ∧ WkE P L.tWg (WgLive L.tWg Wg) Wg 0 J .n4 .none g' (w.setCell (stA Wg) (.int .u64 0)))
variable (P L Wg) in
def SD4 (g : Goroutine) (w : World) : Prop := g.status = .running ∧ mayWake P g = true ∧ (WgAt L.tWg Wg w 0 0 → ∃ g', stepG P false g w = .go g' (w.setCell (smA Wg) (.int .u32 1)) (semEvents (smA Wg)) ∧ ∃ q, QuitsD P q 1 g')
theorem to_rel {m : Nat} {g : Goroutine} {w : World} (hr : g.status = .running) (h : Goes P false (RR r (WgLive L.tWg Wg)) DC0 (SRel P L Wg J r) m g w) : WkE P L.tWg (WgLive L.tWg Wg) Wg 0 J .calm r g w :=
  WkE.goes (ph := .calm) True.intro (fun _ _ h => h.1) (fun _ _ hr h => WkE.rel hr fun w1 a b => (h w1 ⟨a, b⟩).2) m g w hr h
theorem to_dis {m : Nat} {g : Goroutine} {w : World} (hr : g.status = .running) (h : Goes P false (RR .none (WgLive L.tWg Wg)) DC0 (SDis P L Wg J) m g w) : WkE P L.tWg (WgLive L.tWg Wg) Wg 0 J .laid .none g w :=
  WkE.goesI id (fun _ _ h => h.1) (fun _ _ hr h => WkE.dis hr fun w1 a b => (h w1 ⟨a, b⟩).2) m g w hr h
theorem to_dec {m : Nat} {g : Goroutine} {w : World} (hr : g.status = .running) (h : Goes P false (RR .none (WgLive L.tWg Wg)) DC0 (SDec P L Wg J) m g w) : WkE P L.tWg (WgLive L.tWg Wg) Wg 0 J .deaf .none g w :=
  WkE.goesI id (fun _ _ h => h.1) (fun _ _ hr h => WkE.dec hr fun w1 a b => (h w1 ⟨a, b⟩).2) m g w hr h
theorem to_d2 {m : Nat} {g : Goroutine} {w : World} (hr : g.status = .running) (h : Goes P false (RR .none (WgLive L.tWg Wg)) DC0 (SD2 P L Wg J) m g w) : WkE P L.tWg (WgLive L.tWg Wg) Wg 0 J .n2 .none g w :=
  WkE.goesI id (fun _ _ h => h.1) (fun _ _ hr h => WkE.d2 hr fun w1 a b => (h w1 ⟨a, _, _, b⟩).2 b) m g w hr h
theorem to_d3 {m : Nat} {g : Goroutine} {w : World} (hr : g.status = .running) (h : Goes P false (RR .none (WgLive L.tWg Wg)) DC0 (SD3 P L Wg J) m g w) : WkE P L.tWg (WgLive L.tWg Wg) Wg 0 J .n3 .none g w :=
  WkE.goesI id (fun _ _ h => h.1) (fun _ _ hr h => WkE.d3 hr fun w1 a b => (h w1 ⟨a, _, _, b⟩).2 b) m g w hr h
theorem to_d4 {m : Nat} {g : Goroutine} {w : World} (hr : g.status = .running) (h : Goes P false (RR .none (WgLive L.tWg Wg)) DC0 (SD4 P L Wg) m g w) : WkE P L.tWg (WgLive L.tWg Wg) Wg 0 J .n4 .none g w := by
  refine WkE.goesI id (fun _ _ h => h.1) (fun g w hr h => ?_) m g w hr h
  by_cases c : ∃ w1, RR .none (WgLive L.tWg Wg) w w1
  · obtain ⟨w2, h2⟩ := c
    exact WkE.d4 hr (h w2 h2).2.1 fun w1 a b => (h w1 ⟨a, _, _, b⟩).2.2 b
  · exact WkE.idle id hr fun w1 a b => absurd ⟨w1, a, b⟩ c
set_option maxRecDepth 100000 in
set_option maxHeartbeats 8000000 in
theorem wk_done (H : WgLib P L) {c : Frame} {cs : List Frame} {qt : Nat} (hcm : c.mode = .returning) (hT : QuitsD P qt 0 (G c cs)) (w : World) (hJ : ∀ w1, Rely r w w1 → J undef r w1) (hW : WgLive L.tWg Wg w) :
    WkE P L.tWg (WgLive L.tWg Wg) Wg 0 J .calm r (G ((baseD L.done).at ⟨#[.pointer (some ⟨Wg, 0, none⟩), undef, undef, undef], []⟩ [.code (body_done L)]) (c :: cs)) w := by
  lib_facts
  have hF : KW r (WgLive L.tWg Wg) w w := ⟨Rely.refl _ _, hW⟩
  simp only [body_done, doneFn, Option.getD_some]
  refine to_rel (m := 60) rfl ?_
  repeat w_go kw_rely
  u_in kw_rely hF
  refine goes_call rfl rfl (by k_ne) rfl H.f_add (nm_add L) rfl ⟨by u_nil, ?_⟩
  walk_nrmf addFn
  repeat w_go kw_rely
  u_conv H.underlying_tWgP H.room_tWg (WgLive.cell0 hF.2).choose_spec kw_rely hF
  refine Goes.stop (fun w₁ h₁ => ?_)
  replace hF := kw_rely hF h₁
  clear h₁
  refine ⟨rfl, hJ _ hF.1, _, stepG_markAt .releaseMerge (by simp) rfl rfl (by k_ne) rfl H.f_relMerge (x_relMerge_n L) (x_relMerge_b L) (x_relMerge_x L) (x_relMerge_f L) (by simp [Act.eval, stA]), rfl, ?_⟩
  walk_nrm
  replace hF : KW .none (WgLive L.tWg Wg) w₁ w₁ := ⟨Rely.refl _ _, hF.2⟩
  clear hJ
  refine to_dis (m := 20) rfl ?_
  repeat w_go kw_rely
  refine Goes.stop (fun w₂ h₂ => ?_)
  replace hF := kw_rely hF h₂
  clear h₂
  refine ⟨rfl, _, stepG_mark0 .disable (by simp) rfl rfl (by k_ne) rfl H.f_disable (x_disable_n L) (x_disable_b L) (x_disable_x L) (x_disable_f L), rfl, ?_⟩
  walk_nrm
  refine to_dec (m := 60) rfl ?_
  repeat w_go kw_rely
  u_defer kw_rely hF
  repeat w_go kw_rely
  u_bub kw_rely hF
  repeat w_go kw_rely
  u_call H.f_uAdd (nm_uAdd L) uAddFn kw_rely hF
  repeat w_go kw_rely
  refine Goes.stop (fun w₃ h₃ => ?_)
  clear h₃ hF
  refine ⟨rfl, fun v wt hwt hv hw => ?_⟩
  obtain ⟨S, hS⟩ : ∃ S : Int, S = (v : Int) * KK + wt := ⟨_, rfl⟩
  have eS : IntKind.u64.wrap (((v : Nat) + 1) * KK + wt + 18446744069414584320) = S := by rw [IntKind.wrap_u64, hS]; simp only [KK]; omega
  have a1 : S / 4294967296 = (v : Int) := by rw [hS]; simp only [KK]; omega
  have a2 : 0 ≤ S ∧ S < 9223372036854775808 := by rw [hS]; simp only [KK]; omega
  have b1 : bits .and .u64 S 2147483648 = 0 := by rw [hS]; have := Go.ConcN.st_flag v wt (by omega) (by omega); simpa [KK] using this
  have b2 : bits .and .u64 S 2147483647 = wt := by rw [hS]; have := Go.ConcN.st_waiters v wt (by omega) (by omega); simpa [KK] using this
  rw [← hS]
  refine ⟨_, (stepG_add_atomic rfl rfl (by k_ne) rfl H.f_addU64 (x_addU64_n L) (x_addU64_b L) (x_addU64_x L) .u64 (x_addU64_f L) rfl rfl hw.cellSt (hw.thaw 0)).trans (by rw [eS]; rfl), ?_, ?_⟩
  · rintro ⟨rfl, rfl⟩
    have hS1 : S = 1 := by rw [hS]; simp
    subst hS1
    have hF : KW .none (WgLive L.tWg Wg) (w₃.setCell (stA Wg) (.int .u64 1)) (w₃.setCell (stA Wg) (.int .u64 1)) := ⟨Rely.refl _ _, _, _, hw.setSt 1⟩
    clear hw eS a1 a2 b1 b2 hS
    refine ⟨rfl, ?_⟩
    walk_nrm
    refine to_d2 (m := 160) rfl ?_
    repeat w_go kw_rely
    u_leave1 H.f_uAdd kw_rely hF
    repeat w_go kw_rely
    u_call H.f_uLoad (nm_uLoad L) uLoadFn kw_rely hF
    repeat w_go kw_rely
    refine Goes.stop (fun w₄ h₄ => ?_)
    clear h₄ hF
    refine ⟨rfl, fun hw => ⟨_, stepG_load_atomic rfl rfl (by k_ne) rfl H.f_loadU64 (x_loadU64_n L) (x_loadU64_b L) (x_loadU64_x L) .u64 (x_loadU64_f L) rfl hw.cellSt, rfl, ?_⟩⟩
    have hF : KW .none (WgLive L.tWg Wg) w₄ w₄ := ⟨Rely.refl _ _, _, _, hw⟩
    clear hw
    walk_nrm
    refine to_d3 (m := 80) rfl ?_
    repeat w_go kw_rely
    u_leave1 H.f_uLoad kw_rely hF
    repeat w_go kw_rely
    u_call H.f_uStore (nm_uStore L) uStoreFn kw_rely hF
    repeat w_go kw_rely
    refine Goes.stop (fun w₅ h₅ => ?_)
    clear h₅ hF
    refine ⟨rfl, fun hw => ⟨_, stepG_store_atomic rfl rfl (by k_ne) rfl H.f_storeU64 (x_storeU64_n L) (x_storeU64_b L) (x_storeU64_x L) (x_storeU64_f L) rfl rfl hw.cellSt (hw.thaw 0), rfl, ?_⟩⟩
    have hF : KW .none (WgLive L.tWg Wg) (w₅.setCell (stA Wg) (.int .u64 0)) (w₅.setCell (stA Wg) (.int .u64 0)) := ⟨Rely.refl _ _, _, _, hw.setSt 0⟩
    clear hw
    walk_nrm
    refine to_d4 (m := 80) rfl ?_
    repeat w_go kw_rely
    u_leave0 H.f_uStore kw_rely hF
    repeat w_go kw_rely
    refine Goes.stop (fun w₆ h₆ => ?_)
    clear h₆ hF
    refine ⟨rfl, mayWake_entry rfl rfl H.f_semrelease (x_semrelease_b L), fun hw => ⟨_, (stepG_semrelease rfl rfl (by k_ne) rfl H.f_semrelease (x_semrelease_n L) (x_semrelease_b L) (x_semrelease_x L) (x_semrelease_f L) (by simp [Act.eval, smA]) hw.cellSm (hw.thaw 1)).trans (by rfl), qt + 60, ?_⟩⟩
    clear hw
    walk_nrm
    repeat q_go
    q_enable
    q_leave0 H.f_add
    repeat q_go
    exact QuitsD.leaveD rfl rfl H.f_done rfl hcm (quits_le hT (by omega))
  · intro hne
    refine ⟨qt + 160, ?_⟩
    rcases Nat.eq_zero_or_pos v with rfl | hvp
    · have hwt0 : wt = 0 := by omega
      subst hwt0
      have hS0 : S = 0 := by rw [hS]; simp
      subst hS0
      clear hw eS a1 a2 b1 b2 hS hne
      walk_nrm
      change QuitsD P _ _ _
      repeat (q_go; try w_num)
      q_leave1 H.f_uAdd
      repeat (q_go; try w_num)
      q_enable
      q_leave0 H.f_add
      repeat q_go
      exact QuitsD.leaveD rfl rfl H.f_done rfl hcm (quits_le hT (by omega))
    · have hwt2 : wt = 0 ∨ wt = 1 := by omega
      have c1 : IntKind.i32.wrap (v : Int) = v := by rw [IntKind.wrap_i32]; omega
      have c2 : ((v : Int) == 0) = false := by simp; omega
      have c3 : decide ((v : Int) = 0) = false := decide_eq_false (by omega)
      have c4 : decide ((v : Int) < 0) = false := decide_eq_false (by omega)
      have c5 : decide ((0 : Int) < v) = true := decide_eq_true (by omega)
      obtain rfl | rfl := hwt2
      · clear hw eS hS hne
        walk_nrm
        change QuitsD P _ _ _
        repeat (q_go; try w_num)
        q_leave1 H.f_uAdd
        repeat (q_go; try w_num)
        q_enable
        q_leave0 H.f_add
        repeat q_go
        exact QuitsD.leaveD rfl rfl H.f_done rfl hcm (quits_le hT (by omega))
      · clear hw eS hS hne
        walk_nrm
        change QuitsD P _ _ _
        repeat (q_go; try w_num)
        q_leave1 H.f_uAdd
        repeat (q_go; try w_num)
        q_enable
        q_leave0 H.f_add
        repeat q_go
        exact QuitsD.leaveD rfl rfl H.f_done rfl hcm (quits_le hT (by omega))
end
end Cr
end

section
set_option linter.unusedVariables false
set_option linter.unusedSimpArgs false
namespace Go.Proofs.YtienepcknafddaaDoor
open Go Go.Conc

abbrev wgL : Lib.WgLink := { add := 12, done := 14, wait := 16, relMerge := 19, disable := 20, enable := 21, inBubble := 22, associate := 23, fatal := 24, uOr := 25, uAdd := 26, raceRead := 27, uLoad := 28, uStore := 29, disassociate := 30, semrelease := 31, acquire := 35, isAssociated := 36, uCas := 37, raceWrite := 38, semacquire := 39, orU64 := 43, addU64 := 44, loadU64 := 45, storeU64 := 46, casU64 := 49, tWgP := 52, tUP := 54, tAssoc := 56, tWg := 47, tAU := 44, tU64 := 42, tUint := 60, tU32 := 45, tPU32 := 61, tPAU := 76, tPU64 := 78, tNoCopy := 39, tANoCopy := 40, tAlign64 := 41 }
theorem wgLib : Lib.WgLib Tryd.prog wgL :=
  ⟨Tryd.func12, Tryd.func14, Tryd.func16, Tryd.func19, Tryd.func20, Tryd.func21, Tryd.func22, Tryd.func23, Tryd.func24, Tryd.func25, Tryd.func26, Tryd.func27, Tryd.func28, Tryd.func29, Tryd.func30, Tryd.func31, Tryd.func35, Tryd.func36, Tryd.func37, Tryd.func38, Tryd.func39, Tryd.func43, Tryd.func44, Tryd.func45, Tryd.func46, Tryd.func49, Tryd.underlying52, Tryd.runUnderlying52, Tryd.sizeOf52, Tryd.isAgg52, Tryd.zeroValue52, Tryd.underlying54, Tryd.runUnderlying54, Tryd.sizeOf54, Tryd.isAgg54, Tryd.zeroValue54, Tryd.underlying56, Tryd.runUnderlying56, Tryd.sizeOf56, Tryd.isAgg56, Tryd.zeroValue56, Tryd.underlying47, Tryd.runUnderlying47, Tryd.sizeOf47, Tryd.isAgg47, Tryd.zeroValue47, Tryd.underlying44, Tryd.runUnderlying44, Tryd.sizeOf44, Tryd.isAgg44, Tryd.zeroValue44, Tryd.underlying42, Tryd.runUnderlying42, Tryd.sizeOf42, Tryd.isAgg42, Tryd.zeroValue42, Tryd.underlying60, Tryd.runUnderlying60, Tryd.sizeOf60, Tryd.isAgg60, Tryd.zeroValue60, Tryd.underlying45, Tryd.runUnderlying45, Tryd.sizeOf45, Tryd.isAgg45, Tryd.zeroValue45, Tryd.underlying61, Tryd.runUnderlying61, Tryd.sizeOf61, Tryd.isAgg61, Tryd.zeroValue61, Tryd.underlying76, Tryd.runUnderlying76, Tryd.sizeOf76, Tryd.isAgg76, Tryd.zeroValue76, Tryd.underlying78, Tryd.runUnderlying78, Tryd.sizeOf78, Tryd.isAgg78, Tryd.zeroValue78, Tryd.underlying0, Tryd.runUnderlying0, Tryd.sizeOf0, Tryd.isAgg0, Tryd.zeroValue0, Tryd.underlying3, Tryd.runUnderlying3, Tryd.sizeOf3, Tryd.isAgg3, Tryd.zeroValue3, Tryd.underlying4, Tryd.runUnderlying4, Tryd.sizeOf4, Tryd.isAgg4, Tryd.zeroValue4, Tryd.underlying9, Tryd.runUnderlying9, Tryd.sizeOf9, Tryd.isAgg9, Tryd.zeroValue9, Tryd.underlying20, Tryd.runUnderlying20, Tryd.sizeOf20, Tryd.isAgg20, Tryd.zeroValue20, Tryd.underlying21, Tryd.runUnderlying21, Tryd.sizeOf21, Tryd.isAgg21, Tryd.zeroValue21, (by kernel_rfl), (by kernel_rfl)⟩
end Go.Proofs.YtienepcknafddaaDoor
end
