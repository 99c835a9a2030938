/- WALKS: bins.fill, bins.First. -/
import Derived.Test.YtomgcfjdmoefgaaDoorBinsWalks
import Derived.Test.YtomgcfjdmoefgaaDoorOwnRow
namespace Go.Proofs.YtomgcfjdmoefgaaDoor
open Go Go.RowKit BinsPlain

theorem intInfo : (Tryd.prog.info? 3).map (fun i => (i.zero, i.size, i.bytes)) = some (some (.int .i64 0), 1, 8) := by kernel_rfl

/-- a new slice that reads as `xs`; nothing that was there has turned -/
def NewInts (E : TypeId) (xs : List Int) (w : World) (e : Ending) (w' : World) : Prop :=
  ∃ g, e = .returned (.slice (some ⟨g, 0, none⟩) xs.length xs.length) ∧ w.heap.size ≤ g ∧ Row w' g E xs ∧ Below w.heap.size w w'

/-- what a captured variable's block holds -/
def Cell1 (w : World) (p : Nat) (v : Value) (T : TypeId) : Prop := w.heap[p]? = some (.cells #[v] T (0, 0))
theorem Cell1.cell {w : World} {p : Nat} {v : Value} {T : TypeId} (h : Cell1 w p v T) : w.cell? ⟨p, 0, none⟩ = some v := cell_of_one h
theorem Cell1.free {w : World} {p : Nat} {v : Value} {T : TypeId} (h : Cell1 w p v T) : w.frozen? ⟨p, 0, none⟩ = false := free_of_one h
theorem Cell1.alloc {w : World} {p : Nat} {v : Value} {T : TypeId} (h : Cell1 w p v T) (o : Obj) : Cell1 (w.alloc o) p v T := by
  unfold Cell1; rw [Below.heap_alloc w o p (lt_of_block h)]; exact h
theorem Cell1.other {w : World} {p : Nat} {v : Value} {T : TypeId} (h : Cell1 w p v T) (a : Addr) (ha : p ≠ a.block) (u : Value) : Cell1 (w.setCell a u) p v T := by
  unfold Cell1; rw [heap_setCell_other w a p u ha]; exact h
theorem Cell1.drew {w : World} {p : Nat} {v : Value} {T : TypeId} (h : Cell1 w p v T) : Cell1 w.drew p v T := h
theorem Cell1.below {w w' : World} {p : Nat} {v : Value} {T : TypeId} {B : Nat} (h : Cell1 w p v T) (hb : Below B w w') (hp : p < B) : Cell1 w' p v T := (hb.block p hp).trans h

theorem at_mid' (l : List Int) (x : Int) : (l ++ [x]).getD l.length 0 = x := by simp

theorem set_last (l : List Int) (x y : Int) : (l ++ [x]).set l.length y = l ++ [y] := by simp

/-- what `fill` keeps from round to round -/
structure FillRel (sizes : List Int) (a : Option Addr) (cap : Nat) (room : Int) (ord : List Nat) (w : World) (j : Nat) (l out : List Int) (al : Option Addr) (capl : Nat) (wr : World) : Prop where
  hj : j ≤ ord.length
  own : Own wr (w.heap.size + 2) 3 al capl l
  row : Row wr (w.heap.size + 1) 3 out
  cell : Cell1 wr w.heap.size (.slice a sizes.length cap) 22
  len : out.length = sizes.length
  ll : l.length ≤ j
  nilz : l = [] → al = none ∧ capl = 0
  bound : ∀ x ∈ l, 0 ≤ x ∧ x ≤ 1000
  bel : Below w.heap.size w wr
  big : w.heap.size + 2 ≤ wr.heap.size
  eq : fillS sizes room ord [] (List.replicate sizes.length 0) = fillS sizes room (ord.drop j) l out

set_option maxRecDepth 100000 in
set_option maxHeartbeats 1000000 in
theorem fill_any (sizes : List Int) (a : Option Addr) (cap : Nat) (room : Int) (ord : List Nat) (ao : Option Addr) (capo : Nat) (w : World)
    (hx : Ints w a sizes) (hf : Fine sizes room) (ho : Ints w ao (ord.map fun i : Nat => (i : Int))) (hol : ord.length ≤ 16) (hor : ∀ i ∈ ord, i < sizes.length) :
    Calls Tryd.prog 75 #[.slice a sizes.length cap, .slice ao ord.length capo, .int .i64 room] w fun e w' => NewInts 3 (fillS sizes room ord [] (List.replicate sizes.length 0)) w e w' := by
  have hs := hf.short
  have r1 := hf.r1
  have r2 := hf.r2
  obtain ⟨i0, hi, hz0, hz1, hz2⟩ := info_parts intInfo
  have hmk := fun w => run_make_row' (P := Tryd.prog) 22 3 (.int .i64 0) 8 Tryd.underlying22 (by kernel_rfl) rfl .i64 .i64 sizes.length (by omega) (by omega) w
  go_enter Tryd.func75, Tryd.ntmps75
  go_wp2
  go_loopw [8, 17] (fun left idx wr => ∃ (j : Nat) (l out : List Int) (al : Option Addr) (capl : Nat), idx = .int .i64 j ∧ left = .slice al l.length capl ∧ FillRel sizes a cap room ord w j l out al capl wr)
    (fun _ i _ => ord.length - (intOf i).toNat)
  case atStart =>
    refine ⟨0, [], List.replicate sizes.length 0, none, 0, rfl, rfl, ⟨Nat.zero_le _, Own.nil _ _ _, ?_, ?_, by simp, by simp, fun _ => ⟨rfl, rfl⟩, by simp, ?_, by simp, rfl⟩⟩
    · have := Row.made (w.alloc (.cells #[.slice a sizes.length cap] 22)) 3 sizes.length
      simpa using this
    · exact Cell1.alloc (heap_alloc_new w _) _
    · exact ((Below.refl _ _).alloc (Nat.le_refl _) _).alloc (by simp) _
  case round =>
    obtain ⟨j, l, out, al, capl, rfl, rfl, R⟩ := hrel
    rcases Nat.lt_or_ge j ord.length with hlt | hge
    · obtain ⟨bo, oo, rfl, hco⟩ := ho.open (by simp; omega)
      have hcj := hco j (by simp; omega)
      obtain ⟨i, hij⟩ : ∃ i, ord[j]? = some i := ⟨_, List.getElem?_eq_getElem hlt⟩
      have him : i ∈ ord := List.mem_of_getElem? hij
      have hil := hor i him
      have hgi : (ord.map fun i : Nat => (i : Int)).getD j 0 = (i : Int) := by rw [List.getD_eq_getElem?_getD, List.getElem?_map, hij]; rfl
      rw [hgi] at hcj
      have hbo : bo < w.heap.size := World.block_lt_of_cell? w _ hcj
      rw [← R.bel.cell (p := ⟨bo, oo + j, none⟩) hbo] at hcj
      have hdrop : ord.drop j = i :: ord.drop (j + 1) := by
        rw [List.drop_eq_getElem_cons hlt]; congr 1
        rw [List.getElem?_eq_getElem hlt] at hij; simpa using hij
      have Hdrop := Lib.hid hdrop
      have Hij := Lib.hid hij
      clear hco hgi hij hdrop
      have hsi := hf.all _ (getD_mem sizes i hil)
      obtain ⟨b, off, rfl, hcs⟩ := hx.open (by omega)
      have hcsi := hcs i hil
      have hbs : b < w.heap.size := World.block_lt_of_cell? w _ hcsi
      rw [← R.bel.cell (p := ⟨b, off + i, none⟩) hbs] at hcsi
      clear hcs
      generalize hv : sizes.getD i 0 = v at hcsi hsi
      have Hv := Lib.hid hv
      clear hv
      have hsz := R.big
      have hrowlt := R.row.lt
      have hl16 : l.length ≤ 16 := by have := R.ll; omega
      have HR := Lib.hid R
      have hsc := R.cell.cell
      have hsf := R.cell.free
      clear R
      go_wp2_with fail
      have cq : Cell1 (wr.alloc (.cells #[.int .i64 (i : Int)] 3)) wr.heap.size (.int .i64 (i : Int)) 3 := heap_alloc_new wr _
      refine (indexFunc_any l al capl v sizes (some ⟨b, off, none⟩) cap i w.heap.size wr.heap.size _ hil hs ((hx.below HR.out.bel).below ((Below.refl _ _).alloc (Nat.le_refl _) _)) (HR.out.cell.alloc _).cell cq.cell Hv.out (HR.out.own.alloc _).ints hl16).mono ?_
      rintro e w1 ⟨rfl, rfl⟩
      clear cq
      have hfle := fitIdx_le l v
      have hpl : place room l v = if fitIdx l v < l.length then l.set (fitIdx l v) (l.getD (fitIdx l v) 0 - v) else l ++ [room - v] := rfl
      have hfat := fitIdx_at l v
      generalize hk : fitIdx l v = k at hfle hpl hfat
      have hne1 : ¬ b = w.heap.size + 1 := by omega
      have hro := HR.out.row.cell i (by rw [HR.out.len]; exact hil)
      have hrf := HR.out.row.free i
      rcases Nat.lt_or_ge k l.length with hkl | hkl
      · have hfi : foundI l v = (k : Int) := by unfold foundI; rw [hk, if_pos hkl]
        rw [hfi]
        rw [if_pos hkl] at hpl
        have hfat := hfat hkl
        obtain ⟨g, rfl, hg1, hg2, hgc, hgf⟩ := HR.out.own.open (by omega)
        have hlk := hgc k hkl
        have hfk := hgf k
        have hbk := HR.out.bound _ (getD_mem l k hkl)
        clear hgc hgf
        generalize hlv : l.getD k 0 = lv at hlk hpl hfat hbk
        have Hlv := Lib.hid hlv
        have Hpl := Lib.hid hpl
        have Hk := Lib.hid hk
        have Hfi := Lib.hid hfi
        clear hlv hpl hk hfi
        have hne2 : ¬ g = w.heap.size := by omega
        have hne3 : ¬ g = w.heap.size + 1 := by omega
        have hne4 : ¬ g = b := by omega
        have l1 : w.heap.size < wr.heap.size := by omega
        have l2 : w.heap.size + 1 < wr.heap.size := by omega
        have l3 : b < wr.heap.size := by omega
        have hnd : decide ((k : Int) < 0) = false := by simp
        go_wp2
        go_region
        go_wp2
        go_roundw
        case rel =>
          have R := HR.out
          refine ⟨j + 1, l.set k (lv - v), out.set i k, _, _, by go_num, by rw [List.length_set], ?_⟩
          refine ⟨by omega, (((R.own.set k _).below (p := ⟨w.heap.size + 1, i, none⟩) (by show w.heap.size + 1 < w.heap.size + 2; omega) _).alloc _).drew, ?_, ?_, by rw [List.length_set]; exact R.len, by rw [List.length_set]; have := R.ll; omega, fun h => absurd (congrArg List.length h) (by rw [List.length_set]; show l.length ≠ 0; omega), ?_, ?_, by simp; omega, ?_⟩
          · exact (((R.row.other ⟨g, k, none⟩ (by show w.heap.size + 1 ≠ g; omega) _).set i k).alloc _).drew
          · exact (((R.cell.other ⟨g, k, none⟩ (by show w.heap.size ≠ g; omega) _).other ⟨w.heap.size + 1, i, none⟩ (by show w.heap.size ≠ w.heap.size + 1; omega) _).alloc _).drew
          · intro x hx
            rcases List.mem_or_eq_of_mem_set hx with hx | rfl
            · exact R.bound x hx
            · omega
          · exact (((R.bel.setCell (p := ⟨g, k, none⟩) (by show w.heap.size ≤ g; omega) _).setCell (p := ⟨w.heap.size + 1, i, none⟩) (by show w.heap.size ≤ w.heap.size + 1; omega) _).alloc (by simp; omega) _).drew
          · rw [R.eq, Hdrop.out]
            simp only [fillS, Hv.out, Hk.out, Hpl.out]
        case measure => simp only [intOf]; omega
      · have hfi : foundI l v = -1 := by unfold foundI; rw [hk, if_neg (by omega)]
        rw [hfi]
        rw [if_neg (by omega)] at hpl
        clear hfat
        have hkl' : k = l.length := by omega
        have hrowb := HR.out.own.lt
        have hbase : ∃ base, w.heap.size + 2 ≤ base ∧ base ≤ wr.heap.size + 2 ∧ wr.ownsRow base 3 1 (.slice al l.length capl) l.length (l.map (Value.int .i64)) ∧ (base = wr.heap.size + 2 ∨ 1 ≤ l.length) := by
          by_cases h : l = []
          · obtain ⟨h1, h2⟩ := HR.out.nilz h
            subst h1 h2 h
            exact ⟨wr.heap.size + 2, by omega, Nat.le_refl _, World.ownsRow_nil _ _ _ _, .inl rfl⟩
          · exact ⟨w.heap.size + 2, Nat.le_refl _, by omega, HR.out.own, .inr (by cases l with | nil => exact absurd rfl h | cons a l => simp)⟩
        obtain ⟨base, hb1, hb2, hb3, hb4⟩ := hbase
        have Hb4 := Lib.hid hb4
        clear hb4
        have Hpl := Lib.hid hpl
        have Hk := Lib.hid hk
        have Hkl := Lib.hid hkl'
        have Hrowb := Lib.hid hrowb
        clear hpl hk hfi hkl' hrowb
        have l1 : w.heap.size < wr.heap.size := by omega
        have l2 : w.heap.size + 1 < wr.heap.size := by omega
        have l3 : b < wr.heap.size := by omega
        have hl16' : (l.length : Int) ≤ 16 := by omega
        go_wp2_with (at_builtin; refine wpList_append_own _ rfl _ _ 22 rfl base 3 i0 (.int .i64 0) 1 8 Tryd.underlying22 hi hz0 hz1 hz2 rfl (by decide) (.slice al l.length capl) l.length (l.map (Value.int .i64)) rfl ((World.ownsRow.alloc hb3 _).alloc _) ⟨wr.heap.size + 1, 0, none⟩ 1 1 [.int .i64 room] rfl rfl (by have := cell_one_new (wr.alloc (.cells #[.int .i64 (i : Int)] 3)) (.int .i64 room) 3; simpa using this) (by simp [Value.oneCell']) (by unfold maxLen; omega) (by omega) (by simp; omega) ?_; intro v2 w2 own2 gr2 _)
        have R := HR.out
        obtain ⟨a2, cap2, hv2, O2⟩ := Own.of (xs := l ++ [room]) (by simpa using own2)
        rw [hv2]
        have hlen2 : (l ++ [room]).length = l.length + 1 := by simp
        obtain ⟨g, rfl, hg1, hg2, hgc, hgf⟩ := O2.open (by omega)
        have hlk := hgc l.length (by omega)
        have hfk := hgf l.length
        rw [at_mid' l room] at hlk
        clear hgc hgf
        have hW : ∀ kk, kk < wr.heap.size → some kk ≠ (Value.slice al l.length capl).ownBlock → w2.heap[kk]? = wr.heap[kk]? := fun kk hkk hn => by
          rw [gr2.block kk (by simp; omega) hn, Below.heap_alloc _ _ _ (by simp; omega), Below.heap_alloc _ _ _ hkk]
        have hnb : ∀ kk, kk < w.heap.size + 2 → some kk ≠ (Value.slice al l.length capl).ownBlock := fun kk hkk e => by
          have := (Hrowb.out kk e.symm).1; omega
        have c2 : Cell1 w2 w.heap.size (.slice (some ⟨b, off, none⟩) sizes.length cap) 22 := (hW _ l1 (hnb _ (by omega))).trans R.cell
        have r2' : Row w2 (w.heap.size + 1) 3 out := (hW _ l2 (hnb _ (by omega))).trans R.row
        have q2 : w2.heap[wr.heap.size]? = some (.cells #[.int .i64 (i : Int)] 3 (0, 0)) := by
          rw [gr2.block _ (by simp; omega) (fun e => by have := (Hrowb.out _ e.symm).2; omega), Below.heap_alloc _ _ _ (by simp)]
          exact heap_alloc_new wr _
        have s2 : w2.cell? ⟨b, off + i, none⟩ = some (.int .i64 v) := by
          rw [World.cell?_of_block (a := ⟨b, off + i, none⟩) (hW b l3 (hnb b (by omega)))]; exact hcsi
        have bel2 : Below w.heap.size w w2 := ((R.bel.alloc (by omega) _).alloc (by simp; omega) _).grown gr2 (by simp; omega) (fun kk e => by have := (Hrowb.out kk e).1; omega)
        have hsz2 : wr.heap.size + 2 ≤ w2.heap.size := by have := gr2.size; simpa using this
        have hgq : ¬ g = wr.heap.size := by
          intro e
          rcases Hb4.out with h | h
          · omega
          · obtain ⟨cur, hc1, hc2⟩ := O2.size
            rw [e, q2] at hc1
            simp only [Option.some.injEq, Obj.cells.injEq] at hc1
            rw [← hc1.1] at hc2
            have hc3 : (l ++ [room]).length ≤ 1 := hc2
            rw [hlen2] at hc3; omega
        have c2c := c2.cell
        have q2c := cell_of_one q2
        have ro2 := r2'.cell i (by rw [R.len]; exact hil)
        have rf2 := r2'.free i
        have Hc2 := Lib.hid c2
        have Hr2 := Lib.hid r2'
        clear hW hnb c2 r2' q2 hv2 gr2 own2
        have hne2 : ¬ g = w.heap.size := by omega
        have hne3 : ¬ g = w.heap.size + 1 := by omega
        have hne4 : ¬ g = b := by omega
        have hne5 : ¬ wr.heap.size = w.heap.size + 1 := by omega
        have HO2 := Lib.hid O2
        clear O2 R
        go_wp2
        go_region
        go_wp2
        go_roundw
        case rel =>
          have R := HR.out
          refine ⟨j + 1, (l ++ [room]).set l.length (room - v), out.set i (l.length : Nat), _, _, by go_num, by rw [List.length_set], ?_⟩
          refine ⟨by omega, (((HO2.out.mono hb1).set l.length _).below (p := ⟨w.heap.size + 1, i, none⟩) (by show w.heap.size + 1 < w.heap.size + 2; omega) _).drew, ?_, ?_, by rw [List.length_set]; exact R.len, by rw [List.length_set, hlen2]; have := R.ll; omega, fun h => absurd (congrArg List.length h) (by rw [List.length_set, hlen2]; simp), ?_, ?_, by simp; omega, ?_⟩
          · exact ((Hr2.out.other ⟨g, l.length, none⟩ (by show w.heap.size + 1 ≠ g; omega) _).set i _).drew
          · exact ((Hc2.out.other ⟨g, l.length, none⟩ (by show w.heap.size ≠ g; omega) _).other ⟨w.heap.size + 1, i, none⟩ (by show w.heap.size ≠ w.heap.size + 1; omega) _).drew
          · intro x hx
            rcases List.mem_or_eq_of_mem_set hx with hx | rfl
            · rcases List.mem_append.1 hx with hx | hx
              · exact R.bound x hx
              · rw [List.mem_singleton.1 hx]; omega
            · omega
          · exact ((bel2.setCell (p := ⟨g, l.length, none⟩) (by show w.heap.size ≤ g; omega) _).setCell (p := ⟨w.heap.size + 1, i, none⟩) (by show w.heap.size ≤ w.heap.size + 1; omega) _).drew
          · rw [R.eq, Hdrop.out]
            simp only [fillS, Hv.out, Hk.out, Hpl.out, Hkl.out]
            rw [set_last]
        case measure => simp only [intOf]; omega
    · have hjn : j = ord.length := by have := R.hj; omega
      have h3 : ((ord.length : Nat) : Int) ≤ (j : Int) := by omega
      have Hjn := Lib.hid hjn
      have HR := Lib.hid R
      clear hjn R
      go_wp2
      go_ret
      have e := HR.out.eq
      rw [Hjn.out, List.drop_length] at e
      simp only [fillS] at e
      have hle := HR.out.len
      exact ⟨w.heap.size + 1, by rw [e, hle]; rfl, by omega, by rw [e]; exact HR.out.row, HR.out.bel⟩
end Go.Proofs.YtomgcfjdmoefgaaDoor
