/- PLAIN LAW of the model: one value appended to a row of the starter's own, in company (no program text in sight). · WALK: gather: its text in parts; rows of values written out. · WALK: gather: what it knows on its way; what stays when one block is turned. · WALK: gather: a channel is made and laid into its row (in whatever order). -/
import Derived.Test.YtienepcknafddaaDoorM25
import Derived.Conc.AppendEvents3
import Derived.Conc.AppendWalk
import Derived.Maps.AppendAt
import Derived.Test.YtienepcknafddaaDoorM26
set_option linter.unusedVariables false
set_option linter.unusedSimpArgs false
section
namespace Cr
open Go Go.Conc Co Go.RowKit
section
variable {P : Program} {ty : TypeId} {Post : Value → World → Prop} {σ : Sg} {d : Nat} {r : Rts} {b : Frame} {a : _root_.Go.Act} {k : List Item} {cs : List Frame} {w : World} {ops : Array Oper} {i : Nat} {rest : List Nat} {o : Oper}
theorem ownsRow_rely {w1 : World} {base : Nat} {e : TypeId} {v : Value} {n : Nat} {xs : List Value} (h : w.ownsRow base e 1 v n xs) (hr : ∀ g, v.ownBlock = some g → ∀ a : Addr, a.block = g → r.rd (.cell a)) (k : Rely r w w1) : w1.ownsRow base e 1 v n xs := by
  refine ⟨h.1, ?_⟩
  rcases h.2 with h | ⟨g, cap, cur, rfl, h1, h2, h3⟩
  · exact .inl h
  · refine .inr ⟨g, cap, cur, rfl, h1, ?_, h3⟩
    rw [Turn.block k (Array.getElem?_eq_some_iff.1 h2).1 fun i c => c (hr g rfl _ rfl)]
    exact h2
theorem run_append_one {base : Nat} {t tt e : TypeId} {z : Value} {bytes : Nat} (ht : P.underlying t = some (.slice e)) (hi : (P.info? e).map (fun i => (i.zero, i.size, i.bytes)) = some (some z, 1, bytes)) (hz : z.cells.size = 1)
    {v x : Value} {n S c : Nat} {xs : List Value} (hown : w.ownsRow base e 1 v n xs) (hx : w.cell? ⟨S, 0, none⟩ = some x) (hx1 : x.oneCell' = true) (h63 : n + 1 ≤ maxLen) (hbytes : (n + 1) * bytes ≤ 140737488355328) (hbase : base ≤ w.heap.size) :
    ∃ v' w', (Builtin.append_ #[t, t] tt #[v, .slice (some ⟨S, 0, none⟩) 1 c]).run P w = .ok v' w' ∧ w'.ownsRow base e 1 v' (n + 1) (xs ++ [x]) ∧ w.grownBy w' v.ownBlock ∧ (v'.ownBlock = v.ownBlock ∨ v'.ownBlock = some w.heap.size) ∧
      (∀ X : Loc → Prop, (∀ g i, v.ownBlock = some g → X (.cell ⟨g, i, none⟩)) → Turn X w w') ∧
      ∀ ev ∈ (Builtin.append_ #[t, t] tt #[v, .slice (some ⟨S, 0, none⟩) 1 c]).events P w #[], (∃ ad, ev.loc = .cell ad ∧ ((ev.write = false ∧ ad.block = S) ∨ some ad.block = v.ownBlock)) ∨ ∃ m, ev = ⟨.mark m, false, true⟩ ∧ Conc.Neutral m := by
  obtain ⟨i, hi1, hi2⟩ := Option.map_eq_some_iff.1 hi
  simp only [Prod.mk.injEq] at hi2
  obtain ⟨hi2, hi3, hi4⟩ := hi2
  have hnews : ∀ j u, [x][j]? = some u → w.cell? ((⟨S, 0, none⟩ : Addr).add j) = some u := fun j u hu => by
    cases j with
    | zero => simp only [List.getElem?_cons_zero, Option.some.injEq] at hu; subst hu; simpa [Addr.add] using hx
    | succ j => simp at hu
  have h1 : ∀ u ∈ [x], u.oneCell' = true := fun u hu => by simp at hu; subst hu; exact hx1
  obtain ⟨v', w', hr, ho, hg, _, hat⟩ := run_append_own_at (P := P) w base t tt e i z 1 bytes ht hi1 hi2 hi3 hi4 hz (by omega) v n xs hown ⟨S, 0, none⟩ 1 c [x] rfl hnews h1 h63 hbytes hbase
  refine ⟨v', w', hr, ho, hg, hat, fun X hX => ?_, events_append_where w base t tt e i z 1 bytes ht hi1 hi2 hi3 hi4 v n xs hown ⟨S, 0, none⟩ 1 c [x] rfl hnews h1 h63 hbytes⟩
  have new : ∀ ob, Turn X w (w.drew.alloc ob) := fun ob => ⟨rfl, rfl, rfl, by simp, fun b hb => .inl (.inl (Below.heap_alloc w.drew ob b hb))⟩
  have hlx : [x].length = 1 * i.size := by rw [hi3]; rfl
  have hsm : n + 1 ≤ 9223372036854775807 := by simp only [maxLen] at h63; omega
  rcases hown.2 with ⟨rfl, rfl⟩ | ⟨g, cap, cur, rfl, hbg, hgb, hnc, hcm, hcs, htake⟩
  · have hr2 := run_append_nil (P := P) w t tt e i z ht hi1 hi2 ⟨S, 0, none⟩ 1 c [x] hlx hnews (by omega) (by omega) (by rw [hi4]; omega)
    rw [hr2] at hr
    simp only [Result.ok.injEq] at hr
    rw [← hr.2]
    exact new _
  · by_cases hroom : n + 1 ≤ cap
    · have hfit : n * i.size + [x].length ≤ cur.size := by rw [hi3, hcs]; simp; omega
      have hr2 := run_append_room (P := P) w t tt e i ht hi1 g n cap cur hgb ⟨S, 0, none⟩ 1 c [x] hlx hnews h1 hroom hfit
      rw [hr2] at hr
      simp only [Result.ok.injEq] at hr
      rw [← hr.2]
      refine ⟨rfl, rfl, rfl, by simp, fun b hb => .inl ?_⟩
      by_cases hbg' : b = g
      · subst hbg'
        refine .inr ⟨cur, _, e, (0, 0), hgb, setRow_heap w b cur _ e _ hgb, ?_, fun i hn => absurd (hX b i rfl) hn⟩
        have e2 : cur.size = cap := by rw [hcs, Nat.mul_one]
        simp only [List.size_toArray, List.length_append, List.length_take, List.length_drop, Array.length_toList, List.length_cons, List.length_nil, hi3, e2, Nat.mul_one]
        omega
      · exact .inl (setRow_other w g b _ hbg')
    · have holds : ∀ j u, xs[j]? = some u → w.cell? ((⟨g, 0, none⟩ : Addr).add j) = some u := hown.cells (g := g) rfl
      have hr2 := run_append_grow (P := P) w t tt e i z ht hi1 hi2 ⟨g, 0, none⟩ n cap xs (by rw [hi3]; exact hown.1) holds ⟨S, 0, none⟩ 1 c [x] hlx hnews (by omega) (by omega) (growslice_fits (by omega) (by rw [hi4]; exact hbytes))
      rw [hr2] at hr
      simp only [Result.ok.injEq] at hr
      rw [← hr.2]
      exact new _
theorem me_append {base : Nat} {t e : TypeId} {z : Value} {bytes : Nat} (ho : ops[i]? = some o) (hg : Region.wanted o (yielded ops a.tmps) = true) (hk : b.kind ≠ .early) (hl : (P.funcs[b.fn]?).any (·.norace) = false) {s y : Operand}
    (hop : o.op = .call { callee := .builtin .append, args := #[s, y], argTypes := #[t, t] }) (ht : P.underlying t = some (.slice e)) (hi : (P.info? e).map (fun i => (i.zero, i.size, i.bytes)) = some (some z, 1, bytes)) (hz : z.cells.size = 1)
    {v x : Value} {n S c : Nat} {xs : List Value} (hs : a.eval s = v) (hy : a.eval y = .slice (some ⟨S, 0, none⟩) 1 c) (hown : w.ownsRow base e 1 v n xs) (hx : w.cell? ⟨S, 0, none⟩ = some x) (hx1 : x.oneCell' = true) (h63 : n + 1 ≤ maxLen) (hbytes : (n + 1) * bytes ≤ 140737488355328) (hbase : base ≤ w.heap.size)
    (hrv : ∀ g, v.ownBlock = some g → ∀ a : Addr, a.block = g → r.rd (.cell a) ∧ r.wr (.cell a)) (hrs : ∀ a : Addr, a.block = S → r.rd (.cell a))
    (hT : ∀ w1 w' v', Rely r w w1 → w'.ownsRow base e 1 v' (n + 1) (xs ++ [x]) → (∀ X : Loc → Prop, (∀ g i, v.ownBlock = some g → X (.cell ⟨g, i, none⟩)) → Turn X w1 w') → (v'.ownBlock = v.ownBlock ∨ v'.ownBlock = some w1.heap.size) → ME P ty Post σ d (r.new w1.heap.size w'.heap.size) (G (b.at (a.put o.dst v') (.inRegion ops rest :: k)) cs) w') :
    ME P ty Post σ d r (G (b.at a (.inRegion ops (i :: rest) :: k)) cs) w := by
  refine ME.silent rfl fun w1 h1 _ => ?_
  have hown1 := ownsRow_rely hown (fun g e a ha => (hrv g e a ha).1) h1
  have hx' := h1.cell hx (hrs _ rfl)
  obtain ⟨v', w', hr, ho', hgr, hat, hturn, hev⟩ := run_append_one (P := P) (tt := o.type) ht hi hz (c := c) hown1 hx' hx1 h63 hbytes (Nat.le_trans hbase h1.size)
  have hrun : (execOp a.eval o).run P w1 = .ok (.value v') w' := by
    unfold execOp
    simp only [hop, resolve, invoke, builtin, Sem.run_bind, Sem.run_pure, Result.andThen_ok, List.map_toArray, List.map_cons, List.map_nil, hs, hy, hr]
  have hes : (execOp a.eval o).events P w1 #[] = (Builtin.append_ #[t, t] o.type #[v, .slice (some ⟨S, 0, none⟩) 1 c]).events P w1 #[] := events_append_op s y t hop hs hy #[]
  have hlow : ∀ g, v.ownBlock = some g → g < w1.heap.size := fun g e0 => by
    rcases hown1.2 with ⟨rfl, _⟩ | ⟨g', cap, cur, rfl, _, h2, _⟩
    · cases e0
    · simp only [Value.ownBlock, Option.some.injEq] at e0
      subst e0
      exact (Array.getElem?_eq_some_iff.1 h2).1
  have hmk : ∀ ev ∈ (Builtin.append_ #[t, t] o.type #[v, .slice (some ⟨S, 0, none⟩) 1 c]).events P w1 #[], ∀ f, ev.loc ≠ .mark (.extern f) := fun ev he f => by
    rcases hev ev he with ⟨ad, e1, _⟩ | ⟨m, rfl, hm⟩
    · rw [e1]; simp
    · unfold Conc.Neutral at hm; subst hm; simp
  refine ⟨_, w', _, by rw [stepG_value ho hg hk hrun, listed_loud hl hes hmk], ⟨hturn _ fun g i e0 => (hrv g e0 _ rfl).2, fun ev he => ?_⟩, hT w1 w' v' h1 ho' hturn hat⟩
  · rcases hev ev he with ⟨ad, e1, e2⟩ | ⟨m, rfl, hm⟩
    · obtain ⟨loc, wrt, sy⟩ := ev
      simp only at e1 e2
      subst e1
      have hb : ad.block < w1.heap.size := by
        rcases e2 with ⟨_, e2⟩ | e2
        · rw [e2]; exact cell_lt hx'
        · exact hlow _ e2.symm
      refine ⟨fun q hq _ => .inr (.inl ?_), by simp, by simp, by simp, Nat.lt_of_lt_of_le hb hgr.size⟩
      simp only [MemAct.ofEvent, MemAct.touch?, Option.some.injEq] at hq
      subst hq
      rcases e2 with ⟨e2, e3⟩ | e2
      · exact ⟨hrs ad e3, fun c => by rw [e2] at c; cases c⟩
      · exact ⟨(hrv _ e2.symm ad rfl).1, fun _ => (hrv _ e2.symm ad rfl).2⟩
    · unfold Conc.Neutral at hm
      subst hm
      exact ⟨fun q hq => by simp [MemAct.ofEvent, MemAct.touch?] at hq, by simp, by simp, by simp, trivial⟩
end
end Cr
end

section
set_option linter.unusedVariables false
set_option linter.unusedSimpArgs false
set_option linter.unusedVariables false
set_option linter.unusedSimpArgs false
namespace Go.Proofs.YtienepcknafddaaDoor
open Go Go.RowKit Go.Conc Co Cr SimPlain HeapPlain SymPlain
open Go.ConcM

theorem cons_of {l : List Value} {n : Nat} (h : l.length = n + 1) : ∃ x l', l = x :: l' ∧ l'.length = n := by
  cases l with
  | nil => cases h
  | cons x l => exact ⟨x, l, rfl, by simpa using h⟩
theorem arr31 {t : Array Value} (h : t.size = 31) : ∃ x0 x1 x2 x3 x4 x5 x6 x7 x8 x9 x10 x11 x12 x13 x14 x15 x16 x17 x18 x19 x20 x21 x22 x23 x24 x25 x26 x27 x28 x29 x30 : Value, t = #[x0, x1, x2, x3, x4, x5, x6, x7, x8, x9, x10, x11, x12, x13, x14, x15, x16, x17, x18, x19, x20, x21, x22, x23, x24, x25, x26, x27, x28, x29, x30] := by
  obtain ⟨l⟩ := t
  have k0 : l.length = 31 := h
  clear h
  obtain ⟨x0, l1, rfl, k1⟩ := cons_of k0
  obtain ⟨x1, l2, rfl, k2⟩ := cons_of k1
  obtain ⟨x2, l3, rfl, k3⟩ := cons_of k2
  obtain ⟨x3, l4, rfl, k4⟩ := cons_of k3
  obtain ⟨x4, l5, rfl, k5⟩ := cons_of k4
  obtain ⟨x5, l6, rfl, k6⟩ := cons_of k5
  obtain ⟨x6, l7, rfl, k7⟩ := cons_of k6
  obtain ⟨x7, l8, rfl, k8⟩ := cons_of k7
  obtain ⟨x8, l9, rfl, k9⟩ := cons_of k8
  obtain ⟨x9, l10, rfl, k10⟩ := cons_of k9
  obtain ⟨x10, l11, rfl, k11⟩ := cons_of k10
  obtain ⟨x11, l12, rfl, k12⟩ := cons_of k11
  obtain ⟨x12, l13, rfl, k13⟩ := cons_of k12
  obtain ⟨x13, l14, rfl, k14⟩ := cons_of k13
  obtain ⟨x14, l15, rfl, k15⟩ := cons_of k14
  obtain ⟨x15, l16, rfl, k16⟩ := cons_of k15
  obtain ⟨x16, l17, rfl, k17⟩ := cons_of k16
  obtain ⟨x17, l18, rfl, k18⟩ := cons_of k17
  obtain ⟨x18, l19, rfl, k19⟩ := cons_of k18
  obtain ⟨x19, l20, rfl, k20⟩ := cons_of k19
  obtain ⟨x20, l21, rfl, k21⟩ := cons_of k20
  obtain ⟨x21, l22, rfl, k22⟩ := cons_of k21
  obtain ⟨x22, l23, rfl, k23⟩ := cons_of k22
  obtain ⟨x23, l24, rfl, k24⟩ := cons_of k23
  obtain ⟨x24, l25, rfl, k25⟩ := cons_of k24
  obtain ⟨x25, l26, rfl, k26⟩ := cons_of k25
  obtain ⟨x26, l27, rfl, k27⟩ := cons_of k26
  obtain ⟨x27, l28, rfl, k28⟩ := cons_of k27
  obtain ⟨x28, l29, rfl, k29⟩ := cons_of k28
  obtain ⟨x29, l30, rfl, k30⟩ := cons_of k29
  obtain ⟨x30, l31, rfl, k31⟩ := cons_of k30
  obtain rfl := List.eq_nil_of_length_eq_zero k31
  exact ⟨x0, x1, x2, x3, x4, x5, x6, x7, x8, x9, x10, x11, x12, x13, x14, x15, x16, x17, x18, x19, x20, x21, x22, x23, x24, x25, x26, x27, x28, x29, x30, rfl⟩
theorem arr47 {t : Array Value} (h : t.size = 47) : ∃ x0 x1 x2 x3 x4 x5 x6 x7 x8 x9 x10 x11 x12 x13 x14 x15 x16 x17 x18 x19 x20 x21 x22 x23 x24 x25 x26 x27 x28 x29 x30 x31 x32 x33 x34 x35 x36 x37 x38 x39 x40 x41 x42 x43 x44 x45 x46 : Value, t = #[x0, x1, x2, x3, x4, x5, x6, x7, x8, x9, x10, x11, x12, x13, x14, x15, x16, x17, x18, x19, x20, x21, x22, x23, x24, x25, x26, x27, x28, x29, x30, x31, x32, x33, x34, x35, x36, x37, x38, x39, x40, x41, x42, x43, x44, x45, x46] := by
  obtain ⟨l⟩ := t
  have k0 : l.length = 47 := h
  clear h
  obtain ⟨x0, l1, rfl, k1⟩ := cons_of k0
  obtain ⟨x1, l2, rfl, k2⟩ := cons_of k1
  obtain ⟨x2, l3, rfl, k3⟩ := cons_of k2
  obtain ⟨x3, l4, rfl, k4⟩ := cons_of k3
  obtain ⟨x4, l5, rfl, k5⟩ := cons_of k4
  obtain ⟨x5, l6, rfl, k6⟩ := cons_of k5
  obtain ⟨x6, l7, rfl, k7⟩ := cons_of k6
  obtain ⟨x7, l8, rfl, k8⟩ := cons_of k7
  obtain ⟨x8, l9, rfl, k9⟩ := cons_of k8
  obtain ⟨x9, l10, rfl, k10⟩ := cons_of k9
  obtain ⟨x10, l11, rfl, k11⟩ := cons_of k10
  obtain ⟨x11, l12, rfl, k12⟩ := cons_of k11
  obtain ⟨x12, l13, rfl, k13⟩ := cons_of k12
  obtain ⟨x13, l14, rfl, k14⟩ := cons_of k13
  obtain ⟨x14, l15, rfl, k15⟩ := cons_of k14
  obtain ⟨x15, l16, rfl, k16⟩ := cons_of k15
  obtain ⟨x16, l17, rfl, k17⟩ := cons_of k16
  obtain ⟨x17, l18, rfl, k18⟩ := cons_of k17
  obtain ⟨x18, l19, rfl, k19⟩ := cons_of k18
  obtain ⟨x19, l20, rfl, k20⟩ := cons_of k19
  obtain ⟨x20, l21, rfl, k21⟩ := cons_of k20
  obtain ⟨x21, l22, rfl, k22⟩ := cons_of k21
  obtain ⟨x22, l23, rfl, k23⟩ := cons_of k22
  obtain ⟨x23, l24, rfl, k24⟩ := cons_of k23
  obtain ⟨x24, l25, rfl, k25⟩ := cons_of k24
  obtain ⟨x25, l26, rfl, k26⟩ := cons_of k25
  obtain ⟨x26, l27, rfl, k27⟩ := cons_of k26
  obtain ⟨x27, l28, rfl, k28⟩ := cons_of k27
  obtain ⟨x28, l29, rfl, k29⟩ := cons_of k28
  obtain ⟨x29, l30, rfl, k30⟩ := cons_of k29
  obtain ⟨x30, l31, rfl, k31⟩ := cons_of k30
  obtain ⟨x31, l32, rfl, k32⟩ := cons_of k31
  obtain ⟨x32, l33, rfl, k33⟩ := cons_of k32
  obtain ⟨x33, l34, rfl, k34⟩ := cons_of k33
  obtain ⟨x34, l35, rfl, k35⟩ := cons_of k34
  obtain ⟨x35, l36, rfl, k36⟩ := cons_of k35
  obtain ⟨x36, l37, rfl, k37⟩ := cons_of k36
  obtain ⟨x37, l38, rfl, k38⟩ := cons_of k37
  obtain ⟨x38, l39, rfl, k39⟩ := cons_of k38
  obtain ⟨x39, l40, rfl, k40⟩ := cons_of k39
  obtain ⟨x40, l41, rfl, k41⟩ := cons_of k40
  obtain ⟨x41, l42, rfl, k42⟩ := cons_of k41
  obtain ⟨x42, l43, rfl, k43⟩ := cons_of k42
  obtain ⟨x43, l44, rfl, k44⟩ := cons_of k43
  obtain ⟨x44, l45, rfl, k45⟩ := cons_of k44
  obtain ⟨x45, l46, rfl, k46⟩ := cons_of k45
  obtain ⟨x46, l47, rfl, k47⟩ := cons_of k46
  obtain rfl := List.eq_nil_of_length_eq_zero k47
  exact ⟨x0, x1, x2, x3, x4, x5, x6, x7, x8, x9, x10, x11, x12, x13, x14, x15, x16, x17, x18, x19, x20, x21, x22, x23, x24, x25, x26, x27, x28, x29, x30, x31, x32, x33, x34, x35, x36, x37, x38, x39, x40, x41, x42, x43, x44, x45, x46, rfl⟩
theorem arr57 {t : Array Value} (h : t.size = 57) : ∃ x0 x1 x2 x3 x4 x5 x6 x7 x8 x9 x10 x11 x12 x13 x14 x15 x16 x17 x18 x19 x20 x21 x22 x23 x24 x25 x26 x27 x28 x29 x30 x31 x32 x33 x34 x35 x36 x37 x38 x39 x40 x41 x42 x43 x44 x45 x46 x47 x48 x49 x50 x51 x52 x53 x54 x55 x56 : Value, t = #[x0, x1, x2, x3, x4, x5, x6, x7, x8, x9, x10, x11, x12, x13, x14, x15, x16, x17, x18, x19, x20, x21, x22, x23, x24, x25, x26, x27, x28, x29, x30, x31, x32, x33, x34, x35, x36, x37, x38, x39, x40, x41, x42, x43, x44, x45, x46, x47, x48, x49, x50, x51, x52, x53, x54, x55, x56] := by
  obtain ⟨l⟩ := t
  have k0 : l.length = 57 := h
  clear h
  obtain ⟨x0, l1, rfl, k1⟩ := cons_of k0
  obtain ⟨x1, l2, rfl, k2⟩ := cons_of k1
  obtain ⟨x2, l3, rfl, k3⟩ := cons_of k2
  obtain ⟨x3, l4, rfl, k4⟩ := cons_of k3
  obtain ⟨x4, l5, rfl, k5⟩ := cons_of k4
  obtain ⟨x5, l6, rfl, k6⟩ := cons_of k5
  obtain ⟨x6, l7, rfl, k7⟩ := cons_of k6
  obtain ⟨x7, l8, rfl, k8⟩ := cons_of k7
  obtain ⟨x8, l9, rfl, k9⟩ := cons_of k8
  obtain ⟨x9, l10, rfl, k10⟩ := cons_of k9
  obtain ⟨x10, l11, rfl, k11⟩ := cons_of k10
  obtain ⟨x11, l12, rfl, k12⟩ := cons_of k11
  obtain ⟨x12, l13, rfl, k13⟩ := cons_of k12
  obtain ⟨x13, l14, rfl, k14⟩ := cons_of k13
  obtain ⟨x14, l15, rfl, k15⟩ := cons_of k14
  obtain ⟨x15, l16, rfl, k16⟩ := cons_of k15
  obtain ⟨x16, l17, rfl, k17⟩ := cons_of k16
  obtain ⟨x17, l18, rfl, k18⟩ := cons_of k17
  obtain ⟨x18, l19, rfl, k19⟩ := cons_of k18
  obtain ⟨x19, l20, rfl, k20⟩ := cons_of k19
  obtain ⟨x20, l21, rfl, k21⟩ := cons_of k20
  obtain ⟨x21, l22, rfl, k22⟩ := cons_of k21
  obtain ⟨x22, l23, rfl, k23⟩ := cons_of k22
  obtain ⟨x23, l24, rfl, k24⟩ := cons_of k23
  obtain ⟨x24, l25, rfl, k25⟩ := cons_of k24
  obtain ⟨x25, l26, rfl, k26⟩ := cons_of k25
  obtain ⟨x26, l27, rfl, k27⟩ := cons_of k26
  obtain ⟨x27, l28, rfl, k28⟩ := cons_of k27
  obtain ⟨x28, l29, rfl, k29⟩ := cons_of k28
  obtain ⟨x29, l30, rfl, k30⟩ := cons_of k29
  obtain ⟨x30, l31, rfl, k31⟩ := cons_of k30
  obtain ⟨x31, l32, rfl, k32⟩ := cons_of k31
  obtain ⟨x32, l33, rfl, k33⟩ := cons_of k32
  obtain ⟨x33, l34, rfl, k34⟩ := cons_of k33
  obtain ⟨x34, l35, rfl, k35⟩ := cons_of k34
  obtain ⟨x35, l36, rfl, k36⟩ := cons_of k35
  obtain ⟨x36, l37, rfl, k37⟩ := cons_of k36
  obtain ⟨x37, l38, rfl, k38⟩ := cons_of k37
  obtain ⟨x38, l39, rfl, k39⟩ := cons_of k38
  obtain ⟨x39, l40, rfl, k40⟩ := cons_of k39
  obtain ⟨x40, l41, rfl, k41⟩ := cons_of k40
  obtain ⟨x41, l42, rfl, k42⟩ := cons_of k41
  obtain ⟨x42, l43, rfl, k43⟩ := cons_of k42
  obtain ⟨x43, l44, rfl, k44⟩ := cons_of k43
  obtain ⟨x44, l45, rfl, k45⟩ := cons_of k44
  obtain ⟨x45, l46, rfl, k46⟩ := cons_of k45
  obtain ⟨x46, l47, rfl, k47⟩ := cons_of k46
  obtain ⟨x47, l48, rfl, k48⟩ := cons_of k47
  obtain ⟨x48, l49, rfl, k49⟩ := cons_of k48
  obtain ⟨x49, l50, rfl, k50⟩ := cons_of k49
  obtain ⟨x50, l51, rfl, k51⟩ := cons_of k50
  obtain ⟨x51, l52, rfl, k52⟩ := cons_of k51
  obtain ⟨x52, l53, rfl, k53⟩ := cons_of k52
  obtain ⟨x53, l54, rfl, k54⟩ := cons_of k53
  obtain ⟨x54, l55, rfl, k55⟩ := cons_of k54
  obtain ⟨x55, l56, rfl, k56⟩ := cons_of k55
  obtain ⟨x56, l57, rfl, k57⟩ := cons_of k56
  obtain rfl := List.eq_nil_of_length_eq_zero k57
  exact ⟨x0, x1, x2, x3, x4, x5, x6, x7, x8, x9, x10, x11, x12, x13, x14, x15, x16, x17, x18, x19, x20, x21, x22, x23, x24, x25, x26, x27, x28, x29, x30, x31, x32, x33, x34, x35, x36, x37, x38, x39, x40, x41, x42, x43, x44, x45, x46, x47, x48, x49, x50, x51, x52, x53, x54, x55, x56, rfl⟩
noncomputable def qLO : Code := match Tryd.f17.body with | some (.seq _ (.seq (.block _ (.loop c)) _)) => c | _ => .skip
noncomputable def q1 : Code := match qLO with | .seq _ (.block _ c) => c | _ => .skip
noncomputable def qLA : Code := match q1 with | .seq _ (.seq (.seq _ (.block _ (.loop c))) _) => c | _ => .skip
noncomputable def qLB : Code := match q1 with | .seq _ (.seq _ (.seq _ (.seq (.seq _ (.block _ (.loop c))) _))) => c | _ => .skip
noncomputable def q3 : Code := match qLA with | .seq _ (.seq _ (.seq (.block _ c) _)) => c | _ => .skip
noncomputable def q5 : Code := match qLB with | .seq _ (.seq _ (.seq (.block _ c) _)) => c | _ => .skip
noncomputable def qLC : Code := match q5 with | .seq _ (.seq _ (.block _ (.loop c))) => c | _ => .skip
noncomputable def q7 : Code := match qLC with | .seq _ (.seq _ (.block _ c)) => c | _ => .skip
noncomputable def rg0 : Array Oper := match Tryd.f17.body with | some (.seq (.region _ o _) _) => o | _ => #[]
noncomputable def rg1 : Array Oper := match qLO with | .seq (.seq (.region _ o _) _) _ => o | _ => #[]
noncomputable def rg2 : Array Oper := match q1 with | .seq (.region _ o _) _ => o | _ => #[]
noncomputable def rg3 : Array Oper := match q1 with | .seq _ (.seq (.seq (.region _ o _) _) _) => o | _ => #[]
noncomputable def rg4 : Array Oper := match qLA with | .seq (.region _ o _) _ => o | _ => #[]
noncomputable def rg5 : Array Oper := match q3 with | .seq (.region _ o _) _ => o | _ => #[]
noncomputable def rg6 : Array Oper := match q3 with | .seq _ (.seq (.region _ o _) _) => o | _ => #[]
noncomputable def rg7 : Array Oper := match q3 with | .seq _ (.seq _ (.region _ o _)) => o | _ => #[]
noncomputable def rg8 : Array Oper := match qLA with | .seq _ (.seq _ (.seq _ (.region _ o _))) => o | _ => #[]
noncomputable def rg9 : Array Oper := match q1 with | .seq _ (.seq _ (.seq (.region _ o _) _)) => o | _ => #[]
noncomputable def rg10 : Array Oper := match q1 with | .seq _ (.seq _ (.seq _ (.seq (.seq (.region _ o _) _) _))) => o | _ => #[]
noncomputable def rg11 : Array Oper := match qLB with | .seq (.region _ o _) _ => o | _ => #[]
noncomputable def rg12 : Array Oper := match q5 with | .seq (.region _ o _) _ => o | _ => #[]
noncomputable def rg13 : Array Oper := match q5 with | .seq _ (.seq (.region _ o _) _) => o | _ => #[]
noncomputable def rg14 : Array Oper := match qLC with | .seq (.region _ o _) _ => o | _ => #[]
noncomputable def rg15 : Array Oper := match q7 with | .seq (.region _ o _) _ => o | _ => #[]
noncomputable def rg16 : Array Oper := match q7 with | .seq _ (.region _ o _) => o | _ => #[]
noncomputable def rg17 : Array Oper := match qLB with | .seq _ (.seq _ (.seq _ (.region _ o _))) => o | _ => #[]
noncomputable def rg18 : Array Oper := match q1 with | .seq _ (.seq _ (.seq _ (.seq _ (.region _ o _)))) => o | _ => #[]
noncomputable def rg19 : Array Oper := match Tryd.f17.body with | some (.seq _ (.seq _ (.seq (.region _ o _) _))) => o | _ => #[]
noncomputable def LO : Code := qLO
noncomputable def LA : Code := qLA
noncomputable def LB : Code := qLB
noncomputable def LC : Code := qLC
noncomputable def body13 : Code := Tryd.f17.body.getD .skip
theorem body13_eq : body13 = .seq (.region 0 rg0 false) (.seq (.block 0 (.loop LO)) (.seq (.region 19 rg19 false) .ret)) := by kernel_rfl
theorem LO_eq : LO = .seq (.seq (.region 1 rg1 false) (.cond (.tmp 11) .skip (.exit 0))) (.block 1 (.seq (.region 2 rg2 false) (.seq (.seq (.region 3 rg3 false) (.block 2 (.loop LA))) (.seq (.region 9 rg9 false) (.seq (.seq (.region 10 rg10 false) (.block 4 (.loop LB))) (.region 18 rg18 false)))))) := by kernel_rfl
theorem LA_eq : LA = .seq (.region 4 rg4 false) (.seq (.cond (.tmp 20) .skip (.exit 2)) (.seq (.block 3 (.seq (.region 5 rg5 false) (.seq (.region 6 rg6 true) (.region 7 rg7 false)))) (.region 8 rg8 false))) := by kernel_rfl
theorem LB_eq : LB = .seq (.region 11 rg11 false) (.seq (.cond (.tmp 31) .skip (.exit 4)) (.seq (.block 5 (.seq (.region 12 rg12 false) (.seq (.region 13 rg13 false) (.block 6 (.loop LC))))) (.region 17 rg17 false))) := by kernel_rfl
theorem LC_eq : LC = .seq (.region 14 rg14 false) (.seq (.cond (.tmp 36) .skip (.exit 6)) (.block 7 (.seq (.region 15 rg15 false) (.region 16 rg16 false)))) := by kernel_rfl
theorem loud13 : (Tryd.prog.funcs[17]?).any (·.norace) = false := by kernel_rfl
theorem names13 : (Tryd.f17.name == "runtime.NumGoroutine") = false := by kernel_rfl
end Go.Proofs.YtienepcknafddaaDoor
end

section
set_option linter.unusedVariables false
set_option linter.unusedSimpArgs false
set_option linter.unusedVariables false
set_option linter.unusedSimpArgs false
namespace Go.Proofs.YtienepcknafddaaDoor
open Go Go.RowKit Go.Conc Co Cr SimPlain HeapPlain SymPlain

/-- block Z, that holds no items, may have been turned; there may be new blocks -/
structure Upd (Z : Nat) (w w' : World) : Prop where
  same : ∀ b, b < w.heap.size → b ≠ Z → w'.heap[b]? = w.heap[b]?
  cells : CellsAt w Z → CellsAt w' Z
  size : w.heap.size ≤ w'.heap.size
  noint : ∀ k n, w.cell? ⟨Z, 0, none⟩ ≠ some (.int k n)
section
variable {Z : Nat} {r r' : Rts} {w w' : World} {g : Option Addr} {c : Nat} {W : List Ev} {n0 : Nat} {W0 : Past} {T1 P n cp T3 O m k : Nat} {Ws : List (List Ev)} {cls : List Nat}
theorem cell_beyond (w : World) (k : IntKind) (n : Int) : w.cell? ⟨w.heap.size, 0, none⟩ ≠ some (.int k n) := fun e => by
  have := cell_lt e
  simp at this
theorem Upd.alloc (w : World) (o : Obj) : Upd w.heap.size w (w.alloc o) :=
  ⟨fun b hb _ => Below.heap_alloc w o b hb, fun h => h.alloc o, by simp, cell_beyond w⟩
theorem Upd.set {a : Addr} (h : ∀ k n, w.cell? ⟨a.block, 0, none⟩ ≠ some (.int k n)) (v : Value) : Upd a.block w (w.setCell a v) :=
  ⟨fun b _ hb => Below.heap_setCell w a v b hb, fun h => h.set a v, by simp [World.setCell], h⟩
theorem Upd.cell (h : Upd Z w w') {A : Addr} {v : Value} (hv : w.cell? A = some v) (hA : A.block ≠ Z) : w'.cell? A = some v :=
  (World.cell?_of_block (h.same _ (cell_lt hv) hA)).trans hv
theorem Upd.row (h : Upd Z w w') {B j : Nat} (hr : Cr.Row w B j) (hB : B ≠ Z) : Cr.Row w' B j := by
  obtain ⟨x, t, fr, e, h1⟩ := hr
  exact ⟨x, t, fr, (h.same _ (Array.getElem?_eq_some_iff.1 e).1 hB).trans e, h1⟩
theorem PA.upd (h : PA r w g c W) (u : Upd Z w w') (e : ∀ l, r.rd l → r'.rd l) : PA r' w' g c W := by
  have hex : ∀ b, g = some ⟨b, 0, none⟩ → CellsAt w' b := fun b e1 => by
    by_cases hb : b = Z
    · subst hb; exact u.cells (h.pb.ex b e1)
    · obtain ⟨x, t, fr, e2⟩ := h.pb.ex b e1
      exact ⟨x, t, fr, (u.same b (Array.getElem?_eq_some_iff.1 e2).1 hb).trans e2⟩
  refine ⟨PB.mk' h.pb.shape h.pb.cap hex fun hW b e1 i hi => ?_, fun a b k => ⟨e _ (h.rd a b k).1, fun x hx => e _ ((h.rd a b k).2 x hx)⟩, h.gl⟩
  obtain ⟨b', e', _, h2⟩ := h.pb.off hW
  rw [e1] at e'
  simp only [Option.some.injEq, Addr.mk.injEq, and_true] at e'
  subst e'
  have hb : b ≠ Z := fun e2 => by
    subst e2
    have := (h2 0 (List.length_pos_iff.2 hW)).1
    exact u.noint _ _ (by simpa using this)
  exact ⟨u.cell (h2 i hi).1 hb, u.cell (h2 i hi).2 hb⟩
theorem RdB.mono {b : Nat} (h : RdB r b) (e : ∀ l, r.rd l → r'.rd l) : RdB r' b := ⟨e _ h.1, fun a ha => e _ (h.2 a ha)⟩
theorem PartAt.upd {i : Nat} (h : PartAt r w P i W) (u : Upd Z w w') (hP : P ≠ Z) (e : ∀ l, r.rd l → r'.rd l) : PartAt r' w' P i W := by
  obtain ⟨g, c, h1, h2⟩ := h
  exact ⟨g, c, u.cell h1 hP, h2.upd u e⟩
/-- what is known of the lists -/
structure Pl (Ws : List (List Ev)) : Prop where
  srt : ∀ W ∈ Ws, W.Pairwise SimPlain.Lt
  prt : Parted Ws
  len : Ws.flatten.length ≤ 60
  ok : ∀ e ∈ Ws.flatten, okE e = true
/-- what gather knows in a round -/
structure GaF (n0 : Nat) (W0 : Past) (r : Rts) (w : World) (T1 P n cp : Nat) (Ws : List (List Ev)) : Prop where
  hold : Hold n0 W0 r w
  h1 : w.cell? ⟨T1, 0, none⟩ = some (.slice (some ⟨P, 0, none⟩) n cp)
  r1 : RdB r T1
  row1 : Cr.Row w T1 0
  rP : RdB r P
  gl1 : Tryd.prog.globals.size ≤ T1
  glP : Tryd.prog.globals.size ≤ P
  ge : n0 ≤ T1
  len : Ws.length = n
  h6 : n ≤ 6
  h0 : 1 ≤ n
  part : ∀ i W, Ws[i]? = some W → PartAt r w P i W
  pl : Pl Ws
theorem GaF.rely (h : GaF n0 W0 r w T1 P n cp Ws) (q : Rely r w w') : GaF n0 W0 r w' T1 P n cp Ws :=
  { h with hold := h.hold.rely q, h1 := q.cell h.h1 (h.r1.2 _ rfl), row1 := h.row1.rely q, part := fun i W e => (h.part i W e).rely h.rP q }
theorem GaF.upd (h : GaF n0 W0 r w T1 P n cp Ws) (u : Upd Z w w') (h1 : T1 ≠ Z) (hP : P ≠ Z) (hH : Hold n0 W0 r' w') (e : ∀ l, r.rd l → r'.rd l) : GaF n0 W0 r' w' T1 P n cp Ws :=
  { h with hold := hH, h1 := u.cell h.h1 h1, row1 := u.row h.row1 h1, r1 := h.r1.mono e, rP := h.rP.mono e, part := fun i W x => (h.part i W x).upd u hP e }
theorem GaF.pcell (h : GaF n0 W0 r w T1 P n cp Ws) : ∃ g l c, w.cell? ⟨P, 0, none⟩ = some (.slice g l c) := by
  have h0 : 0 < Ws.length := by rw [h.len]; exact h.h0
  obtain ⟨g, c, h1, _⟩ := h.part 0 Ws[0] (List.getElem?_eq_getElem h0)
  exact ⟨g, _, c, h1⟩
theorem GaF.alloc (h : GaF n0 W0 r w T1 P n cp Ws) (o : Obj) : GaF n0 W0 (r.new w.heap.size (w.heap.size + 1)) (w.alloc o) T1 P n cp Ws := by
  obtain ⟨_, _, _, hp⟩ := h.pcell
  exact h.upd (Upd.alloc w o) (fun e => by have := cell_lt h.h1; rw [e] at this; simp at this) (fun e => by have := cell_lt hp; rw [e] at this; simp at this) (h.hold.alloc o) fun l hl => .inl hl
/-- .. while the channels are being made -/
structure LAf (n0 : Nat) (W0 : Past) (r : Rts) (w : World) (T1 P n cp : Nat) (Ws : List (List Ev)) (T3 O m k : Nat) (cls : List Nat) : Prop where
  ga : GaF n0 W0 r w T1 P n cp Ws
  h3 : w.cell? ⟨T3, 0, none⟩ = some (.slice (some ⟨O, 0, none⟩) m m)
  r3 : RdB r T3
  rO : RdB r O
  gl3 : Tryd.prog.globals.size ≤ T3
  geO : n0 ≤ O
  rowO : ∀ j, j < m → Cr.Row w O j
  wrO : ∀ j, k ≤ j → j < m → r.wr (.cell ⟨O, j, none⟩)
  chO : ∃ x, w.cell? ⟨O, 0, none⟩ = some (.chan x)
  len : cls.length = k
  cls : ∀ i c, cls[i]? = some c → w.cell? ⟨O, i, none⟩ = some (.chan (some c))
  km : k ≤ m
  hm : m = (n + 1) / 2
theorem LAf.rely (h : LAf n0 W0 r w T1 P n cp Ws T3 O m k cls) (q : Rely r w w') : LAf n0 W0 r w' T1 P n cp Ws T3 O m k cls :=
  { h with ga := h.ga.rely q, h3 := q.cell h.h3 (h.r3.2 _ rfl), rowO := fun j hj => (h.rowO j hj).rely q, chO := let ⟨x, e⟩ := h.chO; ⟨x, q.cell e (h.rO.2 _ rfl)⟩, cls := fun i c e => q.cell (h.cls i c e) (h.rO.2 _ rfl) }
theorem LAf.alloc (h : LAf n0 W0 r w T1 P n cp Ws T3 O m k cls) (o : Obj) : LAf n0 W0 (r.new w.heap.size (w.heap.size + 1)) (w.alloc o) T1 P n cp Ws T3 O m k cls := by
  obtain ⟨x, hc⟩ := h.chO
  have hO : O ≠ w.heap.size := fun e => by have := cell_lt hc; rw [e] at this; simp at this
  have h3 : T3 ≠ w.heap.size := fun e => by have := cell_lt h.h3; rw [e] at this; simp at this
  have u := Upd.alloc w o
  exact { h with ga := h.ga.alloc o, h3 := u.cell h.h3 h3, r3 := h.r3.mono fun _ => .inl, rO := h.rO.mono fun _ => .inl, rowO := fun j hj => u.row (h.rowO j hj) hO, wrO := fun j a b => .inl (h.wrO j a b), chO := ⟨x, u.cell hc hO⟩, cls := fun i c e => u.cell (h.cls i c e) hO }
theorem Hold.new (h : Hold n0 W0 r w) (x y : Nat) : Hold n0 W0 (r.new x y) w := ⟨fun l hl => hl.imp (h.sub l) id, fun a ha => .inl (h.old a ha), fun b hb => .inl (h.oldo b hb), h.keep, h.le, h.lt⟩
theorem GaF.new (h : GaF n0 W0 r w T1 P n cp Ws) (x y : Nat) : GaF n0 W0 (r.new x y) w T1 P n cp Ws :=
  { h with hold := Hold.new h.hold x y, r1 := h.r1.mono fun _ => .inl, rP := h.rP.mono fun _ => .inl, part := fun i W e => let ⟨g, c, a, b⟩ := h.part i W e; ⟨g, c, a, b.mono fun _ => .inl⟩ }
theorem LAf.new (h : LAf n0 W0 r w T1 P n cp Ws T3 O m k cls) (x y : Nat) : LAf n0 W0 (r.new x y) w T1 P n cp Ws T3 O m k cls :=
  { h with ga := h.ga.new x y, r3 := h.r3.mono fun _ => .inl, rO := h.rO.mono fun _ => .inl, wrO := fun j a b => .inl (h.wrO j a b) }
/-- what is done to new blocks is nothing to the old -/
theorem rely_alloc {w1 : World} (h : Rely r w w1) (o : Obj) : Rely r w (w1.alloc o) := by
  refine ⟨h.tape, h.os, h.output, Nat.le_trans h.size (by simp), fun b hb => ?_⟩
  rw [Below.heap_alloc w1 o b (Nat.lt_of_lt_of_le hb h.size)]
  exact h.blk b hb
theorem rely_set {w1 : World} (h : Rely r w w1) {a : Addr} (ha : w.heap.size ≤ a.block) (v : Value) : Rely r w (w1.setCell a v) := by
  refine ⟨h.tape, h.os, h.output, by rw [size_setCell]; exact h.size, fun b hb => ?_⟩
  rw [Below.heap_setCell w1 a v b (by omega)]
  exact h.blk b hb
theorem rely_of_new {w1 : World} {x y : Nat} (h : Rely (r.new x y) w w1) : Rely r w w1 := Rely.mono (fun l hl => (Or.inl hl : (r.new x y).rd l)) h
end
end Go.Proofs.YtienepcknafddaaDoor
end

section
set_option linter.unusedVariables false
set_option linter.unusedSimpArgs false
set_option linter.unusedVariables false
set_option linter.unusedSimpArgs false
namespace Go.Proofs.YtienepcknafddaaDoor
open Go Go.RowKit Go.Conc Co Cr SimPlain HeapPlain SymPlain

theorem rg6_size : rg6.size = 5 := by kernel_rfl
noncomputable def og (i : Nat) : Oper := rg6.getD i default
theorem og_at {i : Nat} (h : i < 5) : rg6[i]? = some (og i) := op_at (by rw [rg6_size]; exact h)
theorem og_guard : (List.range 5).all (fun i => (og i).guard.isNone) = true := by kernel_rfl
theorem og_wanted {i : Nat} (h : i < 5) (y : Nat → Option Bool) : Region.wanted (og i) y = true :=
  wanted_free (Option.isNone_iff_eq_none.1 (List.all_eq_true.1 og_guard i (List.mem_range.2 h))) y
theorem og_dst : (List.range 4).all (fun i => (og i).dst == some (22 + i)) = true := by kernel_rfl
theorem og_dst' {i : Nat} (h : i < 4) : (og i).dst = some (22 + i) := by simpa using List.all_eq_true.1 og_dst i (List.mem_range.2 h)
theorem og4_dst : (og 4).dst = none := by kernel_rfl
theorem og0 : (og 0).op = .load 71 (.tmp 3) := by kernel_rfl
theorem og1 : (og 1).op = .load 3 (.tmp 4) := by kernel_rfl
theorem og2 : (og 2).op = .makeChan 72 (.const (.int .i64 1)) := by kernel_rfl
theorem og3 : (og 3).op = .indexAddr 71 (.tmp 22) (.tmp 23) := by kernel_rfl
theorem og4 : (og 4).op = .store 72 (.tmp 25) (.tmp 24) := by kernel_rfl
def depg (i j : Nat) : Prop := ((og i).after.any fun e => e.on == j && Region.binds .any e) = true
theorem depg3 : depg 3 0 ∧ depg 3 1 := ⟨by unfold depg; kernel_rfl, by unfold depg; kernel_rfl⟩
theorem chaing4 : chain rg6 [4] [3, 2, 0, 1] = true := by kernel_rfl
theorem allg (mixed : Bool) (t i : Nat) (hi : i < rg6.size) : i ∈ Region.schedule mixed rg6 t :=
  schedule_all (o1 := List.range 5) (o2 := List.range 5) (by kernel_rfl) (by kernel_rfl) (by rw [rg6_size]; decide) (by rw [rg6_size]; decide) (by rw [rg6_size]; decide) (by rw [rg6_size]; decide) (by kernel_rfl) mixed t hi
/-- a channel that nobody else knows -/
structure ChF (n0 : Nat) (r : Rts) (w : World) (c : Nat) : Prop where
  at_ : w.heap[c]? = some (.chan 1 #[] false 0 0 false)
  rd : ∀ a : Addr, a.block = c → r.rd (.cell a)
  wr : ∀ a : Addr, a.block = c → r.wr (.cell a)
  ob : r.rd (.obj c)
  ge : n0 ≤ c
section
variable {σ : Sg} {d : Nat} {Post : Value → World → Prop} {r r' : Rts} {w w' : World} {n0 : Nat} {W0 : Past} {T1 P n cp T3 O m k T4 : Nat} {Ws : List (List Ev)} {cls : List Nat}
theorem ChF.rely {c : Nat} (h : ChF n0 r w c) (q : Rely r w w') : ChF n0 r w' c :=
  { h with at_ := by rw [Turn.block q (Array.getElem?_eq_some_iff.1 h.at_).1 fun i x => x (h.rd _ rfl)]; exact h.at_ }
/-- what is known while the region runs -/
structure GbF (n0 : Nat) (W0 : Past) (r : Rts) (w : World) (T1 P n cp : Nat) (Ws : List (List Ev)) (T3 O m k : Nat) (cls : List Nat) (T4 : Nat) : Prop where
  la : LAf n0 W0 r w T1 P n cp Ws T3 O m k cls
  h4 : w.cell? ⟨T4, 0, none⟩ = some (.int .i64 k)
  r4 : RdB r T4
  gl4 : Tryd.prog.globals.size ≤ T4
  hk : k < m
theorem GbF.rely (h : GbF n0 W0 r w T1 P n cp Ws T3 O m k cls T4) (q : Rely r w w') : GbF n0 W0 r w' T1 P n cp Ws T3 O m k cls T4 :=
  { h with la := h.la.rely q, h4 := q.cell h.h4 (h.r4.2 _ rfl) }
theorem GbF.new (h : GbF n0 W0 r w T1 P n cp Ws T3 O m k cls T4) (x y : Nat) : GbF n0 W0 (r.new x y) w T1 P n cp Ws T3 O m k cls T4 :=
  { h with la := h.la.new x y, r4 := h.r4.mono fun _ => .inl }
/-- the slots -/
structure T6 (n0 T3 T4 O m k : Nat) (r : Rts) (w : World) (t0 t : Array Value) (l : List Nat) : Prop where
  size : t.size = 47
  same : ∀ s, (s < 22 ∨ 25 < s) → t[s]? = t0[s]?
  v0 : 0 ∉ l → t[22]? = some (.slice (some ⟨O, 0, none⟩) m m)
  v1 : 1 ∉ l → t[23]? = some (.int .i64 k)
  v2 : 2 ∉ l → ∃ c, t[24]? = some (.chan (some c)) ∧ ChF n0 r w c
  v3 : 3 ∉ l → t[25]? = some (.pointer (some ⟨O, k, none⟩))
theorem notin_cons {i j : Nat} {l : List Nat} (h : j ∉ l) (e : j ≠ i) : j ∉ i :: l := fun c => by
  rcases List.mem_cons.1 c with c | c
  · exact e c
  · exact h c
/-- the channel has been laid into its row -/
structure GcF (n0 : Nat) (W0 : Past) (r : Rts) (w : World) (T1 P n cp : Nat) (Ws : List (List Ev)) (T3 O m k : Nat) (cls : List Nat) (T4 c : Nat) : Prop where
  gb : GbF n0 W0 r w T1 P n cp Ws T3 O m k cls T4
  hO : w.cell? ⟨O, k, none⟩ = some (.chan (some c))
  ch : ChF n0 r w c
theorem GbF.store {c : Nat} (h : GbF n0 W0 r w T1 P n cp Ws T3 O m k cls T4) (hc : ChF n0 r w c) : GcF n0 W0 r (w.setCell ⟨O, k, none⟩ (.chan (some c))) T1 P n cp Ws T3 O m k cls T4 c := by
  obtain ⟨x, hx⟩ := h.la.chO
  obtain ⟨gp, lp, cpp, hp⟩ := h.la.ga.pcell
  have hT4 : T4 ≠ O := fun e => by have := h.h4; rw [e, hx] at this; cases this
  have hT3 : T3 ≠ O := fun e => by have := h.la.h3; rw [e, hx] at this; cases this
  have hT1 : T1 ≠ O := fun e => by have := h.la.ga.h1; rw [e, hx] at this; cases this
  have hP : P ≠ O := fun e => by rw [e, hx] at hp; cases hp
  have hcO : c ≠ O := fun e => by
    obtain ⟨y, t, fr, e1⟩ := cellsAt_of hx
    have := hc.at_
    rw [e] at this
    rw [this] at e1; cases e1
  have u : Upd O w (w.setCell ⟨O, k, none⟩ (.chan (some c))) := Upd.set (a := ⟨O, k, none⟩) (fun _ _ => by rw [hx]; simp) _
  have hset := (h.la.rowO k h.hk).set (.chan (some c))
  have hoth : ∀ j, j ≠ k → (w.setCell ⟨O, k, none⟩ (.chan (some c))).cell? ⟨O, j, none⟩ = w.cell? ⟨O, j, none⟩ := fun j hj => by
    obtain ⟨y, t, fr, e1, _, _⟩ := h.la.rowO k h.hk
    simp [World.cell?, World.setCell, Array.getElem?_modify, e1, Array.getElem?_setIfInBounds_ne (Ne.symm hj)]
  have hrows : ∀ j, j < m → Cr.Row (w.setCell ⟨O, k, none⟩ (.chan (some c))) O j := fun j hj => by
    obtain ⟨y, t, fr, e1, e2, e3⟩ := h.la.rowO j hj
    exact ⟨y.setIfInBounds k (.chan (some c)), t, fr, by simp [World.setCell, Array.getElem?_modify, e1], by simpa using e2, e3⟩
  refine ⟨⟨⟨h.la.ga.upd u hT1 hP (h.la.ga.hold.set h.la.geO _) fun _ hl => hl, u.cell h.la.h3 hT3, h.la.r3, h.la.rO, h.la.gl3, h.la.geO, hrows, h.la.wrO, ?_, h.la.len, fun i c' e => ?_, h.la.km, h.la.hm⟩, u.cell h.h4 hT4, h.r4, h.gl4, h.hk⟩, hset, ?_⟩
  · by_cases e : k = 0
    · subst e; exact ⟨_, hset⟩
    · exact ⟨x, (hoth 0 (Ne.symm e)).trans hx⟩
  · have : i < k := by rw [← h.la.len]; exact (List.getElem?_eq_some_iff.1 e).1
    exact (hoth i (by omega)).trans (h.la.cls i c' e)
  · exact { hc with at_ := (u.same c (Array.getElem?_eq_some_iff.1 hc.at_).1 hcO).trans hc.at_ }
set_option maxRecDepth 100000 in
set_option maxHeartbeats 4000000 in
theorem ga_r6l {t0 : Array Value} {k0 : List Item} {cs : List Frame} (h3 : t0[3]? = some (.pointer (some ⟨T3, 0, none⟩))) (h4 : t0[4]? = some (.pointer (some ⟨T4, 0, none⟩)))
    (cont : ∀ (t : Array Value) (r : Rts) (w : World) (c : Nat), t.size = 47 → (∀ s, (s < 22 ∨ 25 < s) → t[s]? = t0[s]?) → GcF n0 W0 r w T1 P n cp Ws T3 O m k cls T4 c → ME Tryd.prog wgL.tWg Post σ d r (G ((base 17).at ⟨t, []⟩ (.inRegion rg6 [] :: k0)) cs) w) :
    ∀ (l : List Nat) (t : Array Value) (r : Rts) (w : World), OrdInv rg6 l → 4 ∈ l → GbF n0 W0 r w T1 P n cp Ws T3 O m k cls T4 → T6 n0 T3 T4 O m k r w t0 t l →
      ME Tryd.prog wgL.tWg Post σ d r (G ((base 17).at ⟨t, []⟩ (.inRegion rg6 l :: k0)) cs) w
  | [], _, _, _, _, h, _, _ => by cases h
  | i :: l, t, r, w, hO, h4l, F, hT => by
    have hi : i < 5 := by have := hO.lt i (by simp); rwa [rg6_size] at this
    have hO' := hO.tail
    have nin : i ∉ l := by
      intro hm
      obtain ⟨x, _, ⟨y1, _, y2⟩, _⟩ := hO
      have := ordered_fresh y2 hm
      rw [Array.getD_eq_getD_getElem?] at y1
      cases hx : x[i]? with
      | none => rw [hx] at y1; cases y1
      | some v =>
        have hlt := (Array.getElem?_eq_some_iff.1 hx).1
        rw [Array.getD_eq_getD_getElem?, Array.getElem?_setIfInBounds_self_of_lt hlt] at this
        cases this
    by_cases e4 : i = 4
    · subst e4
      obtain rfl := hO.last chaing4 (fun j hj => by rw [rg6_size] at hj; have : j = 4 ∨ j ∈ [3, 2, 0, 1] := by simp; omega
                                                    exact this)
      have hd := hO.all_done chaing4
      have v3 := hT.v3 (hd 3 (by simp))
      obtain ⟨c, v2, hc⟩ := hT.v2 (hd 2 (by simp))
      refine me_st (og_at hi) (og_wanted hi _) (by decide) loud13 (st69 og4 (ev_tmp v3) (ev_tmp v2)) (F.la.rowO k F.hk) (F.la.rO.2 _ rfl) (F.la.wrO k (Nat.le_refl _) F.hk) fun w1 h1 => ?_
      rw [og4_dst]
      exact cont t r _ c hT.size hT.same ((F.rely h1).store (hc.rely h1))
    · have h4l' : 4 ∈ l := by
        rcases List.mem_cons.1 h4l with c | c
        · exact absurd c.symm e4
        · exact c
      have set_size : ∀ x v, (t.setIfInBounds x v).size = 47 := fun x v => by simpa using hT.size
      have set_same : ∀ x v, 22 ≤ x → x ≤ 25 → ∀ s, (s < 22 ∨ 25 < s) → (t.setIfInBounds x v)[s]? = t0[s]? := fun x v h1 h2 s hs => by
        rw [Array.getElem?_setIfInBounds_ne (by omega)]; exact hT.same s hs
      have set_at : ∀ x v, x ≤ 25 → (t.setIfInBounds x v)[x]? = some v := fun x v h1 => Array.getElem?_setIfInBounds_self_of_lt (by rw [hT.size]; omega)
      have set_ne : ∀ {x : Nat} {v : Value} {y : Nat} {u : Option Value}, t[y]? = u → x ≠ y → (t.setIfInBounds x v)[y]? = u := fun e hne => by rw [Array.getElem?_setIfInBounds_ne hne]; exact e
      have t3 : t[3]? = some (.pointer (some ⟨T3, 0, none⟩)) := (hT.same 3 (by omega)).trans h3
      have t4 : t[4]? = some (.pointer (some ⟨T4, 0, none⟩)) := (hT.same 4 (by omega)).trans h4
      have old : ∀ j : Nat, j ∉ l → j ≠ i → j ∉ i :: l := fun _ a b => notin_cons a b
      match i, hi, e4, hO, nin, old, hT with
      | 0, hi, _, hO, nin, old, hT =>
        refine me_ld (og_at hi) (og_wanted hi _) (by decide) loud13 rfl (ld68 og0 (ev_tmp t3)) F.la.h3 (F.la.r3.2 _ rfl) ?_
        rw [og_dst' (by omega)]
        exact ga_r6l h3 h4 cont l _ r w hO' h4l' F ⟨set_size _ _, set_same _ _ (by omega) (by omega), fun _ => set_at _ _ (by omega), fun a => set_ne (hT.v1 (old _ a (by omega))) (by omega), fun a => let ⟨c, e, hc⟩ := hT.v2 (old _ a (by omega)); ⟨c, set_ne e (by omega), hc⟩, fun a => set_ne (hT.v3 (old _ a (by omega))) (by omega)⟩
      | 1, hi, _, hO, nin, old, hT =>
        refine me_ld (og_at hi) (og_wanted hi _) (by decide) loud13 rfl (ld3 og1 (ev_tmp t4)) F.h4 (F.r4.2 _ rfl) ?_
        rw [og_dst' (by omega)]
        exact ga_r6l h3 h4 cont l _ r w hO' h4l' F ⟨set_size _ _, set_same _ _ (by omega) (by omega), fun a => set_ne (hT.v0 (old _ a (by omega))) (by omega), fun _ => set_at _ _ (by omega), fun a => let ⟨c, e, hc⟩ := hT.v2 (old _ a (by omega)); ⟨c, set_ne e (by omega), hc⟩, fun a => set_ne (hT.v3 (old _ a (by omega))) (by omega)⟩
      | 2, hi, _, hO, nin, old, hT =>
        refine me_al (f := fun n => .chan (some n)) (og_at hi) (og_wanted hi _) (by decide) loud13 (mkChan og2 rfl) fun w1 h1 hiv => ?_
        rw [og_dst' (by omega)]
        have F1 := (F.rely (rely_alloc h1 (.chan 1 #[] false 0 0 false))).new w1.heap.size (w1.heap.size + 1)
        have hch : ChF n0 (r.new w1.heap.size (w1.heap.size + 1)) (w1.alloc (.chan 1 #[] false 0 0 false)) w1.heap.size :=
          ⟨alloc_here _ _, fun a ha => new_rd_cell ha, fun a ha => new_wr_cell ha, new_rd_obj, Nat.le_trans F.la.ga.hold.le h1.size⟩
        exact ga_r6l h3 h4 cont l _ _ _ hO' h4l' F1 ⟨set_size _ _, set_same _ _ (by omega) (by omega), fun a => set_ne (hT.v0 (old _ a (by omega))) (by omega), fun a => set_ne (hT.v1 (old _ a (by omega))) (by omega), fun _ => ⟨_, set_at _ _ (by omega), hch⟩, fun a => set_ne (hT.v3 (old _ a (by omega))) (by omega)⟩
      | 3, hi, _, hO, nin, old, hT =>
        have d0 := hO.done' (og_at hi) depg3.1
        have d1 := hO.done' (og_at hi) depg3.2
        refine me_op (og_at hi) (og_wanted hi _) (by decide) loud13 (ix68 F.hk og3 (ev_tmp (hT.v0 d0)) (ev_tmp (hT.v1 d1))) ?_
        rw [og_dst' (by omega)]
        exact ga_r6l h3 h4 cont l _ r w hO' h4l' F ⟨set_size _ _, set_same _ _ (by omega) (by omega), fun a => set_ne (hT.v0 (old _ a (by omega))) (by omega), fun a => set_ne (hT.v1 (old _ a (by omega))) (by omega), fun a => let ⟨c, e, hc⟩ := hT.v2 (old _ a (by omega)); ⟨c, set_ne e (by omega), hc⟩, fun _ => set_at _ _ (by omega)⟩
      | j + 4, hi, e4, _, _, _, _ => exact absurd (show j + 4 = 4 by omega) e4
/-- THE REGION -/
theorem ga_r6 {t0 : Array Value} {k0 : List Item} {cs : List Frame} (hs : t0.size = 47) (h3 : t0[3]? = some (.pointer (some ⟨T3, 0, none⟩))) (h4 : t0[4]? = some (.pointer (some ⟨T4, 0, none⟩))) (F : GbF n0 W0 r w T1 P n cp Ws T3 O m k cls T4)
    (cont : ∀ (t : Array Value) (r : Rts) (w : World) (c : Nat), t.size = 47 → (∀ s, (s < 22 ∨ 25 < s) → t[s]? = t0[s]?) → GcF n0 W0 r w T1 P n cp Ws T3 O m k cls T4 c → ME Tryd.prog wgL.tWg Post σ d r (G ((base 17).at ⟨t, []⟩ (.inRegion rg6 [] :: k0)) cs) w) :
    ME Tryd.prog wgL.tWg Post σ d r (G ((base 17).at ⟨t0, []⟩ (.code (.region 6 rg6 true) :: k0)) cs) w := by
  refine me_draw allg fun l hl h9 => ?_
  rw [rg6_size] at h9
  exact ga_r6l h3 h4 cont l t0 r w hl (h9 4 (by omega)) F ⟨hs, fun _ _ => rfl, fun c => absurd (h9 0 (by omega)) c, fun c => absurd (h9 1 (by omega)) c, fun c => absurd (h9 2 (by omega)) c, fun c => absurd (h9 3 (by omega)) c⟩
end
end Go.Proofs.YtienepcknafddaaDoor
end
