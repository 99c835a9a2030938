/- PLAIN AND WALKS: the document's Sizes, Boxes, Many. -/
import Derived.Test.YtomgcfjdmoefgaaDoorRefJobs
import Derived.Test.YtomgcfjdmoefgaaDoorBinsFall
namespace Go.Proofs.YtomgcfjdmoefgaaDoor
open Go Go.RowKit BinsPlain PackPlain SortPlain TwicePlain

/-! ### plain -/
theorem loadA_set (times on : List Int) (i : Nat) (v c : Int) (hi : i < on.length) : ∀ k, loadA times (on.set i v) k c = loadA times on k c + (if i < k then (if v = c then times.getD i 0 else 0) - (if on.getD i 0 = c then times.getD i 0 else 0) else 0) := by
  intro k
  induction k with
  | zero => simp [loadA, revRange, loadL]
  | succ k ih =>
    rw [loadA_succ, loadA_succ, ih]
    by_cases e : k = i
    · subst e
      have h1 : (on.set k v).getD k 0 = v := by rw [List.getD_eq_getElem?_getD, List.getElem?_set_self hi]; rfl
      rw [h1, if_neg (Nat.lt_irrefl k), if_pos (Nat.lt_succ_self k)]
      omega
    · have h1 : (on.set i v).getD k 0 = on.getD k 0 := by rw [List.getD_eq_getElem?_getD, List.getElem?_set_ne (fun c => e c.symm), List.getD_eq_getElem?_getD]
      rw [h1]
      by_cases c : i < k
      · rw [if_pos c, if_pos (show i < k + 1 by omega)]; omega
      · rw [if_neg c, if_neg (show ¬ i < k + 1 by omega)]; omega
theorem loadA_zero (times : List Int) (c : Nat) : ∀ k n, k ≤ n → loadA times (List.replicate n (-1)) k c = 0 := by
  intro k n
  induction k with
  | zero => intro _; simp [loadA, revRange, loadL]
  | succ k ih =>
    intro h
    rw [loadA_succ, ih (by omega), if_neg]
    · rfl
    · rw [List.getD_eq_getElem?_getD, List.getElem?_replicate, if_pos (by omega)]
      simp
theorem falls_unique {t : List Int} : ∀ {l l' : List Nat}, l.Perm l' → l.Pairwise (Bef t) → l'.Pairwise (Bef t) → l = l'
  | [], l', hp, _, _ => by rw [hp.nil_eq]
  | x :: l, [], hp, _, _ => absurd hp.length_eq (by simp)
  | x :: l, y :: l', hp, h, h' => by
    rw [List.pairwise_cons] at h h'
    have hxy : x = y := by
      have hx := hp.mem_iff.1 (show x ∈ x :: l by simp)
      have hy := hp.mem_iff.2 (show y ∈ y :: l' by simp)
      rcases List.mem_cons.1 hx with c | c
      · exact c
      rcases List.mem_cons.1 hy with d | d
      · exact d.symm
      exact absurd ((h.1 y d).trans (h'.1 x c)) Bef.irrefl
    subst hxy
    rw [falls_unique (hp.cons_inv) h.2 h'.2]

def minus (n k : Nat) : List Int := (List.range n).map fun j => if j < k then -1 else 0
theorem minus_set {n k : Nat} (hk : k < n) : (minus n k).set k (-1) = minus n (k + 1) := by
  refine list_eq_of_getD _ _ (by simp [minus]) fun j hj => ?_
  have hjn : j < n := by simpa [minus] using hj
  have hg : ∀ k, (minus n k).getD j 0 = if j < k then -1 else 0 := fun k => by
    unfold minus; rw [List.getD_eq_getElem?_getD, List.getElem?_map, List.getElem?_range hjn]; rfl
  rw [hg]
  by_cases e : k = j
  · subst e
    rw [List.getD_eq_getElem?_getD, List.getElem?_set_self (by simpa [minus] using hjn), if_pos (Nat.lt_succ_self _)]; rfl
  · rw [List.getD_eq_getElem?_getD, List.getElem?_set_ne e, ← List.getD_eq_getElem?_getD, hg]
    by_cases c : j < k
    · rw [if_pos c, if_pos (by omega)]
    · rw [if_neg c, if_neg (by omega)]
theorem minus_all (n : Nat) : minus n n = List.replicate n (-1) := by
  refine list_eq_of_getD _ _ (by simp [minus]) fun j hj => ?_
  have hjn : j < n := by simpa [minus] using hj
  unfold minus
  rw [List.getD_eq_getElem?_getD, List.getElem?_map, List.getElem?_range hjn, List.getD_eq_getElem?_getD, List.getElem?_replicate, if_pos hjn]
  simp [hjn]
theorem minus_zero (n : Nat) : minus n 0 = List.replicate n 0 := by
  refine list_eq_of_getD _ _ (by simp [minus]) fun j hj => ?_
  have hjn : j < n := by simpa [minus] using hj
  unfold minus
  rw [List.getD_eq_getElem?_getD, List.getElem?_map, List.getElem?_range hjn, List.getD_eq_getElem?_getD, List.getElem?_replicate, if_pos hjn]
  simp
/-- the order, its first k put back -/
def mixO (n : Nat) (z : List Int) (k : Nat) : List Int := (List.range n).map fun j : Nat => if j < k then (j : Int) else z.getD j 0
theorem mixO_set {n k : Nat} (z : List Int) (hk : k < n) : (mixO n z k).set k (k : Int) = mixO n z (k + 1) := by
  refine list_eq_of_getD _ _ (by simp [mixO]) fun j hj => ?_
  have hjn : j < n := by simpa [mixO] using hj
  have hg : ∀ k, (mixO n z k).getD j 0 = if j < k then (j : Int) else z.getD j 0 := fun k => by
    unfold mixO; rw [List.getD_eq_getElem?_getD, List.getElem?_map, List.getElem?_range hjn]; rfl
  rw [hg]
  by_cases e : k = j
  · subst e
    rw [List.getD_eq_getElem?_getD, List.getElem?_set_self (by simpa [mixO] using hjn), if_pos (Nat.lt_succ_self _)]; rfl
  · rw [List.getD_eq_getElem?_getD, List.getElem?_set_ne e, ← List.getD_eq_getElem?_getD, hg]
    by_cases c : j < k
    · rw [if_pos c, if_pos (by omega)]
    · rw [if_neg c, if_neg (by omega)]
theorem mixO_zero {n : Nat} (z : List Int) (h : z.length = n) : mixO n z 0 = z := by
  refine list_eq_of_getD _ _ (by simp [mixO, h]) fun j hj => ?_
  have hjn : j < n := by simpa [mixO] using hj
  unfold mixO
  rw [List.getD_eq_getElem?_getD, List.getElem?_map, List.getElem?_range hjn]; simp
theorem mixO_all (n : Nat) (z : List Int) : mixO n z n = asInts (List.range n) := by
  refine list_eq_of_getD _ _ (by simp [mixO, asInts]) fun j hj => ?_
  have hjn : j < n := by simpa [mixO] using hj
  unfold mixO asInts
  rw [List.getD_eq_getElem?_getD, List.getD_eq_getElem?_getD, List.getElem?_map, List.getElem?_map, List.getElem?_range hjn]; simp [hjn]
theorem mixO_length (n : Nat) (z : List Int) (k : Nat) : (mixO n z k).length = n := by simp [mixO]

/-! ### walks -/
theorem rsizes_any (sizes : List Int) (room : Int) (a : Option Addr) (cap : Nat) (w : World) (hx : Ints w a sizes) (hl : sizes.length ≤ 9223372036854775807) :
    Calls Tryd.prog 34 #[.slice a sizes.length cap, .int .i64 room] w fun e w' => e = .returned (.int .i64 (chk sizes room)) ∧ w = w' := by
  by_cases h1 : 16 < sizes.length
  · have e : chk sizes room = 4 := by unfold chk; rw [if_pos h1]
    rw [e]
    clear e
    have h1' : (16 : Int) < sizes.length := by omega
    go_enter Tryd.func34, Tryd.ntmps34
    go_wp2
    go_ret
    exact ⟨rfl, rfl⟩
  have h1' : (sizes.length : Int) ≤ 16 := by omega
  by_cases h2 : room < 1 ∨ 1000 < room
  · have e : chk sizes room = 1 := by unfold chk; rw [if_neg h1, if_pos h2]
    rw [e]
    have H2 := Lib.hid h2
    clear e h1 h2
    go_enter Tryd.func34, Tryd.ntmps34
    go_wp2_with (go_at_call 55; refine (rin_no room 1 1000 H2.out _).mono ?_; rintro e w' ⟨rfl, rfl⟩)
    go_ret
    exact ⟨rfl, rfl⟩
  have r1 : 1 ≤ room := by omega
  have r2 : room ≤ 1000 := by omega
  have hlen : sizes.length ≤ 16 := by omega
  clear h1 h2
  go_enter Tryd.func34, Tryd.ntmps34
  go_wp2_with (go_at_call 55; refine (rin_yes room 1 1000 r1 r2 _).mono ?_; rintro e w' ⟨rfl, rfl⟩)
  go_loop [5] (fun i => ∃ k : Nat, k ≤ sizes.length ∧ i = .int .i64 k ∧ ∀ j, j < k → 1 ≤ sizes.getD j 0 ∧ sizes.getD j 0 ≤ room) (fun i => sizes.length - (intOf i).toNat)
  case atStart => exact ⟨0, Nat.zero_le _, rfl, fun j hj => by omega⟩
  case round =>
    obtain ⟨k, hk, rfl, hall⟩ := hrel
    have Hall := Lib.hid hall
    clear hall
    rcases Nat.lt_or_ge k sizes.length with hlt | hge
    · obtain ⟨b, off, rfl, hc⟩ := hx.open (by omega)
      have hck := hc k hlt
      have hm := getD_mem sizes k hlt
      clear hc
      generalize hv : sizes.getD k 0 = v at hck hm
      have Hv := Lib.hid hv
      have Hm := Lib.hid hm
      clear hv hm
      by_cases hr : v < 1 ∨ room < v
      · have Hr := Lib.hid hr
        clear hr
        go_wp2_with (go_at_call 55; refine (rin_no v 1 room Hr.out _).mono ?_; rintro e w' ⟨rfl, rfl⟩)
        go_ret
        refine ⟨?_, rfl⟩
        rw [chk_bad (fun h => by have := h v Hm.out; have := Hr.out; omega) hlen]; rfl
      · have v1 : 1 ≤ v := by omega
        have v2 : v ≤ room := by omega
        clear hr
        go_wp2_with (go_at_call 55; refine (rin_yes v 1 room v1 v2 _).mono ?_; rintro e w' ⟨rfl, rfl⟩)
        go_round
        case rel =>
          refine ⟨k + 1, by omega, by go_num, fun j hj => ?_⟩
          rcases Nat.lt_or_ge j k with h | h
          · exact Hall.out j h
          · have : j = k := by omega
            subst this; rw [Hv.out]; exact ⟨v1, v2⟩
        case measure => simp only [intOf]; omega
    · have hkn : k = sizes.length := by omega
      have Hkn := Lib.hid hkn
      clear hkn
      have h3 : ((sizes.length : Nat) : Int) ≤ (k : Int) := by omega
      go_wp2
      go_ret
      refine ⟨?_, rfl⟩
      rw [fine_chk ⟨hlen, r1, r2, fun n hn => by obtain ⟨i, hi, rfl⟩ := mem_getD hn; exact Hall.out i (by rw [Hkn.out]; exact hi)⟩]; rfl


/-! ### Boxes -/
theorem fillS_eq (sizes : List Int) (room : Int) : ∀ (ord : List Nat) (l out out' : List Int), ord.Nodup → out.length = out'.length → (∀ i ∈ ord, i < out.length) → (∀ j, j < out.length → j ∉ ord → out.getD j 0 = out'.getD j 0) → fillS sizes room ord l out = fillS sizes room ord l out'
  | [], l, out, out', _, h1, _, h => by
    rw [fillS, fillS]
    exact list_eq_of_getD _ _ h1 fun k hk => h k hk (by simp)
  | i :: ord, l, out, out', hn, h1, hlt, h => by
    rw [List.nodup_cons] at hn
    have hi := hlt i (by simp)
    rw [fillS, fillS]
    generalize sizes.getD i 0 = s
    refine fillS_eq sizes room ord _ _ _ hn.2 (by rw [List.length_set, List.length_set, h1]) (fun x hx => by rw [List.length_set]; exact hlt x (by simp [hx])) fun j hj hjn => ?_
    rw [List.length_set] at hj
    by_cases e : i = j
    · subst e
      rw [List.getD_eq_getElem?_getD, List.getD_eq_getElem?_getD, List.getElem?_set_self hi, List.getElem?_set_self (by omega)]
    · rw [List.getD_eq_getElem?_getD, List.getD_eq_getElem?_getD, List.getElem?_set_ne e, List.getElem?_set_ne e, ← List.getD_eq_getElem?_getD, ← List.getD_eq_getElem?_getD]
      refine h j hj ?_
      rw [List.mem_cons]
      rintro (c | c)
      · exact e c.symm
      · exact hjn c
/-- what the second loop keeps -/
structure RBox (sizes : List Int) (room : Int) (ord : List Nat) (w : World) (k B : Nat) (ao : Option Addr) (capo : Nat) (l on : List Int) (wr : World) : Prop where
  row : Row wr w.heap.size 3 on
  own : Own wr B 3 ao capo (asInts ord)
  bel : Below w.heap.size w wr
  len : on.length = sizes.length
  eq : fillS sizes room (ord.drop k) l on = fillS sizes room ord [] (List.replicate sizes.length (-1))
  load : ∀ j : Nat, j < l.length → loadA sizes on sizes.length j = room - l.getD j 0
  rest : ∀ j : Nat, l.length ≤ j → loadA sizes on sizes.length j = 0
  neg : ∀ i ∈ ord.drop k, on.getD i 0 = -1
  small : l.length ≤ k
  low : ∀ j, j < l.length → 0 ≤ l.getD j 0 ∧ l.getD j 0 ≤ 1000
set_option maxRecDepth 100000 in
set_option maxHeartbeats 2000000 in
theorem rboxes_any (sizes : List Int) (room : Int) (long : Bool) (a : Option Addr) (cap : Nat) (w : World) (hx : Ints w a sizes) (hf : Fine sizes room) :
    Calls Tryd.prog 36 #[.slice a sizes.length cap, .int .i64 room, .bool long] w fun e w' => ∃ ord, (if long then Falls sizes sizes.length ord else ord = List.range sizes.length) ∧
      e = .returned (.slice (some ⟨w.heap.size, 0, none⟩) sizes.length sizes.length) ∧ Row w' w.heap.size 3 (fillS sizes room ord [] (List.replicate sizes.length 0)) ∧ Below w.heap.size w w' := by
  have hs := hf.short
  have r1 := hf.r1
  have r2 := hf.r2
  have hall := hf.all
  have hmk := fun w => run_make_row' (P := Tryd.prog) 22 3 (.int .i64 0) 8 Tryd.underlying22 (by kernel_rfl) rfl .i64 .i64 sizes.length (by omega) (by omega) w
  have b0 : Below w.heap.size w (w.alloc (.cells (madeCells #[.int .i64 0] sizes.length) 3)) := (Below.refl _ _).alloc (Nat.le_refl _) _
  have HL := Lib.hid (longest_any sizes a cap _ (hx.below b0) hs)
  have hrow := Row.made w 3 sizes.length
  rw [← minus_zero] at hrow
  have HR0 := Lib.hid hrow
  have HB0 := Lib.hid b0
  clear hrow b0
  go_enter Tryd.func36, Tryd.ntmps36
  go_wp2_with fail
  refine HL.out.mono ?_
  rintro e w2 ⟨ord, ao, co, rfl, hF, hO, hb⟩
  have hOl : (asInts ord).length = sizes.length := by rw [asInts_length, hF.length]
  have HR1 := Lib.hid (HR0.out.below hb (by simp))
  have HB1 := Lib.hid (HB0.out.trans (hb.mono (by simp)))
  have HF := Lib.hid hF
  have HO := Lib.hid (hO.mono (B' := w.heap.size + 1) (by simp))
  have HOl := Lib.hid hOl
  clear hF hO hb hOl HL HR0 HB0
  go_wp2
  go_loopw [9] (fun i wr => ∃ k : Nat, i = .int .i64 k ∧ k ≤ sizes.length ∧ Row wr w.heap.size 3 (minus sizes.length k) ∧ Own wr (w.heap.size + 1) 3 ao co (if long then asInts ord else mixO sizes.length (asInts ord) k) ∧ Below w.heap.size w wr) (fun i _ => sizes.length - (intOf i).toNat)
  case atStart =>
    refine ⟨0, rfl, Nat.zero_le _, HR1.out, ?_, HB1.out⟩
    rw [mixO_zero _ HOl.out]
    have h := HO.out
    cases long <;> exact h
  case round =>
    obtain ⟨k, rfl, hk, hrow, hown, hbr⟩ := hrel
    rcases Nat.lt_or_ge k sizes.length with hlt | hge
    · have hml : (minus sizes.length k).length = sizes.length := by simp [minus]
      have c1 := hrow.cell k (by omega)
      have f1 := hrow.free k
      have hn1 := (hrow.set k (-1))
      rw [minus_set hlt] at hn1
      have hb1 := hbr.setCell (p := ⟨w.heap.size, k, none⟩) (Nat.le_refl _) (.int .i64 (-1))
      have ho1 := hown.below (p := ⟨w.heap.size, k, none⟩) (Nat.lt_succ_self _) (.int .i64 (-1))
      have hrlt := hrow.lt
      generalize (minus sizes.length k).getD k 0 = old at c1
      have hkI : (k : Int) < sizes.length := by omega
      cases long with
      | true =>
        simp only [if_true] at ho1
        have HN := Lib.hid hn1
        have HB := Lib.hid hb1
        have HO1 := Lib.hid ho1
        clear hrow hown hbr hn1 hb1 ho1 hml
        go_wp2
        go_roundw
        case rel => exact ⟨k + 1, by go_num, by omega, HN.out, HO1.out, HB.out⟩
        case measure => simp only [intOf]; omega
      | false =>
        simp only [Bool.false_eq_true, if_false] at ho1
        have hol := mixO_length sizes.length (asInts ord) k
        obtain ⟨h, rfl, h1, h2, h3, h4⟩ := ho1.open (by omega)
        have c2 := h3 k (by omega)
        have f2 := h4 k
        have hn2 := hn1.other (⟨h, k, none⟩ : Addr) (by show w.heap.size ≠ h; omega) (.int .i64 (k : Int))
        have ho2 := ho1.set k (k : Int)
        rw [mixO_set _ hlt] at ho2
        have hb2 := hb1.setCell (p := ⟨h, k, none⟩) (by show w.heap.size ≤ h; omega) (.int .i64 (k : Int))
        generalize (mixO sizes.length (asInts ord) k).getD k 0 = old2 at c2
        have hne : ¬ h = w.heap.size := by omega
        have HN := Lib.hid hn2
        have HB := Lib.hid hb2
        have HO1 := Lib.hid ho2
        clear hrow hown hbr hn1 hb1 ho1 hml hn2 ho2 hb2 h3 h4 hol
        go_wp2
        go_roundw
        case rel => exact ⟨k + 1, by go_num, by omega, HN.out, HO1.out, HB.out⟩
        case measure => simp only [intOf]; omega
    · obtain rfl : sizes.length = k := by omega
      have h3 : decide (sizes.length < sizes.length) = false := by simp
      obtain ⟨ordX, hX1, hX2, hX3⟩ : ∃ ordX : List Nat, ordX.Perm (List.range sizes.length) ∧ (if long then Falls sizes sizes.length ordX else ordX = List.range sizes.length) ∧ Own wr (w.heap.size + 1) 3 ao co (asInts ordX) := by
        cases long with
        | true => exact ⟨ord, HF.out.perm, HF.out, hown⟩
        | false => exact ⟨List.range sizes.length, List.Perm.refl _, rfl, by simp only [Bool.false_eq_true, if_false] at hown; rw [mixO_all] at hown; exact hown⟩
      rw [minus_all] at hrow
      have hXl : ordX.length = sizes.length := by rw [hX1.length_eq, List.length_range]
      have HX1 := Lib.hid hX1
      have HX2 := Lib.hid hX2
      have hG : RBox sizes room ordX w 0 (w.heap.size + 1) ao co [] (List.replicate sizes.length (-1)) wr := ⟨hrow, hX3, hbr, by simp, by rw [List.drop_zero], fun j hj => by simp at hj, fun j _ => loadA_zero sizes j _ _ (Nat.le_refl _), fun i hi => by
        have hi := List.mem_range.1 (hX1.mem_iff.1 (List.mem_of_mem_drop hi))
        rw [List.getD_eq_getElem?_getD, List.getElem?_replicate, if_pos hi]; rfl, Nat.le_refl _, fun j hj => by simp at hj⟩
      have HG := Lib.hid hG
      have HXl := Lib.hid hXl
      clear hX1 hX2 hX3 hrow hown hbr hG hXl HO HOl HF HR1 HB1
      go_wp2
      go_loopw [10] (fun i wr => ∃ (k : Nat) (l on : List Int), i = .int .i64 k ∧ k ≤ sizes.length ∧ RBox sizes room ordX w k (w.heap.size + 1) ao co l on wr) (fun i _ => sizes.length - (intOf i).toNat)
      case atStart => exact ⟨0, _, _, rfl, Nat.zero_le _, HG.out⟩
      case round =>
        obtain ⟨k, l, on, rfl, hk, R⟩ := hrel
        rcases Nat.lt_or_ge k sizes.length with hlt | hge
        · have hal : (asInts ordX).length = sizes.length := by rw [asInts_length, HXl.out]
          obtain ⟨h, rfl, h1, h2, h5, h6⟩ := R.own.open (by omega)
          have c2 := h5 k (by omega)
          have hk2 : k < ordX.length := by have := HXl.out; omega
          have hget : (asInts ordX).getD k 0 = (ordX[k] : Int) := by unfold asInts; rw [List.getD_eq_getElem?_getD, List.getElem?_map, List.getElem?_eq_getElem hk2]; rfl
          rw [hget] at c2
          have ho : ordX[k] < sizes.length := List.mem_range.1 (HX1.out.mem_iff.1 (List.getElem_mem hk2))
          have hdrop := List.drop_eq_getElem_cons hk2
          have hnd : (ordX.drop k).Nodup := (HX1.out.nodup_iff.2 List.nodup_range).sublist (List.drop_sublist _ _)
          generalize ordX[k] = o at *
          obtain ⟨bb, oo, rfl, hcs⟩ := (hx.below R.bel).open (by omega)
          have c3 := hcs o ho
          have hso := hall _ (getD_mem sizes o ho)
          have hhas := fun c : Int => has_any sizes on c (some ⟨bb, oo, none⟩) (some ⟨w.heap.size, 0, none⟩) cap sizes.length wr (hx.below R.bel) R.row.ints (by omega) R.len (fun t ht => by have := hall t ht; omega)
          have HH := Lib.hid hhas
          have HR := Lib.hid R
          have hfl := fitIdx_le l (sizes.getD o 0)
          have hsm := R.small
          have HD := Lib.hid hdrop
          have HND := Lib.hid hnd
          have hoI : (o : Int) < sizes.length := by omega
          have hkI : (k : Int) < sizes.length := by omega
          clear R hhas hcs h5 h6 hget hal hdrop hnd
          generalize hsz : sizes.getD o 0 = s at *
          have HSz := Lib.hid hsz
          clear hsz
          go_wp2
          obtain ⟨w5, hw5⟩ : ∃ w5, w5 = wr := ⟨_, rfl⟩
          subst hw5
          go_loopw [11] (fun i wx => ∃ q : Nat, i = .int .i64 q ∧ q ≤ fitIdx l s ∧ ∃ n, wx = w5.drewN n) (fun i _ => fitIdx l s + 1 - (intOf i).toNat)
          case atStart => exact ⟨0, rfl, Nat.zero_le _, 0, rfl⟩
          case round =>
            obtain ⟨q, rfl, hq, n, hwn⟩ := hrel
            have hxx : Ints wr (some ⟨bb, oo, none⟩) sizes := by rw [hwn]; exact (hx.below HR.out.bel).drewN n
            have hrw : Row wr w.heap.size 3 on := by rw [hwn]; exact HR.out.row.drewN n
            have d2 : wr.cell? ⟨h, k, none⟩ = some (.int .i64 (o : Int)) := by rw [hwn]; exact c2
            have d3 : wr.cell? ⟨bb, oo + o, none⟩ = some (.int .i64 s) := by rw [hwn]; exact c3
            have HWn := Lib.hid hwn
            have HRw := Lib.hid hrw
            have H1 := Lib.hid (fun k => has_any sizes on q (some ⟨bb, oo, none⟩) (some ⟨w.heap.size, 0, none⟩) cap sizes.length (wr.drewN k) (hxx.drewN k) (hrw.drewN k).ints (by omega) HR.out.len (fun t ht => by have := hall t ht; omega))
            clear hwn hxx hrw
            rcases Nat.lt_or_ge q (fitIdx l s) with hqf | hqf
            · have hb := fitIdx_before l s q hqf
              have hld := HR.out.load q (by omega)
              have hlo := HR.out.low q (by omega)
              have hgt : room < loadA sizes on sizes.length q + s := by omega
              have hub : loadA sizes on sizes.length q ≤ 1000 := by omega
              have hlb : -1000 ≤ loadA sizes on sizes.length q := by omega
              clear hb hld hlo
              generalize loadA sizes on sizes.length (q : Int) = u at *
              go_wp2
              go_quiet (first | (with_reducible exact Calls.quiet_of_same (H1.out _)))
              go_wp2
              go_roundw
              case rel => exact ⟨q + 1, by go_num, by omega, n + nq, by rw [HWn.out, World.drewN_drewN]⟩
              case measure => simp only [intOf]; omega
            · obtain rfl : q = fitIdx l s := by omega
              have hle : loadA sizes on sizes.length (fitIdx l s : Nat) + s ≤ room := by
                rcases Nat.lt_or_ge (fitIdx l s) l.length with c | c
                · have := HR.out.load _ c
                  have := fitIdx_at l s c
                  omega
                · have := HR.out.rest _ c
                  omega
              have hlb : -1000 ≤ loadA sizes on sizes.length (fitIdx l s : Nat) := by
                rcases Nat.lt_or_ge (fitIdx l s) l.length with c | c
                · have := HR.out.load _ c
                  have := (HR.out.low _ c)
                  omega
                · have := HR.out.rest _ c
                  omega
              have R := HR.out
              have hneg := R.neg
              rw [HD.out] at hneg
              have hon := hneg o (by simp)
              have hN : RBox sizes room ordX w (k + 1) (w.heap.size + 1) (some ⟨h, 0, none⟩) co (place room l s) (on.set o (fitIdx l s : Nat)) (w5.setCell ⟨w.heap.size, o, none⟩ (.int .i64 (fitIdx l s : Nat))) := by
                have hpl := place_length room l s
                have hol : o < on.length := by rw [R.len]; exact ho
                refine ⟨R.row.set o _, R.own.below (p := ⟨w.heap.size, o, none⟩) (Nat.lt_succ_self _) _, R.bel.setCell (p := ⟨w.heap.size, o, none⟩) (Nat.le_refl _) _, by rw [List.length_set, R.len], ?_, fun j hj => ?_, fun j hj => ?_, fun i hi => ?_, ?_, fun j hj => ?_⟩
                · rw [← R.eq, HD.out, fillS, HSz.out]
                · rw [loadA_set sizes on o _ j hol, if_pos ho, hon, if_neg (c := (-1 : Int) = (j : Int)) (by omega), place_getD, HSz.out]
                  by_cases e : j = fitIdx l s
                  · rw [if_pos e, if_pos (by omega)]
                    by_cases c : fitIdx l s < l.length
                    · rw [if_pos c, R.load j (by omega)]; omega
                    · rw [if_neg c, R.rest j (by omega)]; omega
                  · rw [if_neg e, if_neg (by omega)]
                    have hjl : j < l.length := by
                      rw [hpl] at hj
                      split at hj
                      · exact hj
                      · omega
                    rw [R.load j hjl]; omega
                · rw [loadA_set sizes on o _ j hol, if_pos ho, hon, if_neg (c := (-1 : Int) = (j : Int)) (by omega)]
                  rw [hpl] at hj
                  have hjn : j ≠ fitIdx l s ∧ l.length ≤ j := by split at hj <;> omega
                  rw [if_neg (by omega), R.rest j hjn.2]; omega
                · have hnd := HND.out
                  rw [HD.out, List.nodup_cons] at hnd
                  have hio : o ≠ i := fun c => hnd.1 (by rw [c]; exact hi)
                  rw [List.getD_eq_getElem?_getD, List.getElem?_set_ne hio, ← List.getD_eq_getElem?_getD]
                  exact hneg i (by simp [hi])
                · rw [hpl]; split <;> omega
                · rw [place_getD]
                  rw [hpl] at hj
                  by_cases e : j = fitIdx l s
                  · rw [if_pos e]
                    by_cases c : fitIdx l s < l.length
                    · rw [if_pos c]
                      have h1 := fitIdx_at l s c
                      have h2 := R.low j (by omega)
                      rw [e] at h2 ⊢; omega
                    · rw [if_neg c]; omega
                  · rw [if_neg e]
                    exact R.low j (by split at hj <;> omega)
              have c4 := HRw.out.cell o (by rw [R.len]; exact ho)
              have f4 := HRw.out.free o
              have HN := Lib.hid hN
              generalize loadA sizes on sizes.length ((fitIdx l s : Nat) : Int) = u at *
              generalize on.getD o 0 = old at c4
              clear hN hneg hon R
              go_wp2
              go_quiet (first | (with_reducible exact Calls.quiet_of_same (H1.out _)))
              have HN2 : Hid (RBox sizes room ordX w (k + 1) (w.heap.size + 1) (some ⟨h, 0, none⟩) co (place room l s) (on.set o (fitIdx l s : Nat)) ((wr.drewN nq).setCell ⟨w.heap.size, o, none⟩ (.int .i64 (fitIdx l s : Nat)))) := Lib.hid (by
                have H := HN.out
                rw [HWn.out]
                exact ⟨H.row, H.own, (drewN_below (drewN_below HR.out.bel n) nq).setCell (p := ⟨w.heap.size, o, none⟩) (Nat.le_refl _) _, H.len, H.eq, H.load, H.rest, H.neg, H.small, H.low⟩)
              clear HN
              go_wp2
              go_roundw
              case rel => exact ⟨k + 1, _, _, by go_num, by omega, HN2.out⟩
              case measure => simp only [intOf]; omega
        · obtain rfl : sizes.length = k := by omega
          have h3 : decide (sizes.length < sizes.length) = false := by simp
          have HR := Lib.hid R
          have hon : on = fillS sizes room ordX [] (List.replicate sizes.length 0) := by
            have h := R.eq
            rw [List.drop_of_length_le (by rw [HXl.out]; exact Nat.le_refl _), fillS] at h
            rw [h]
            exact fillS_eq sizes room ordX [] _ _ (HX1.out.nodup_iff.2 List.nodup_range) (by simp) (fun i hi => by rw [List.length_replicate]; exact List.mem_range.1 (HX1.out.mem_iff.1 hi)) (fun j hj hjn => by rw [List.length_replicate] at hj; exact absurd (HX1.out.mem_iff.2 (List.mem_range.2 hj)) hjn)
          have HOn := Lib.hid hon
          clear R hon
          cases long
          all_goals
            go_wp2
            go_ret
            first
              | exact ⟨ordX, by simpa using HX2.out, rfl, by rw [← HOn.out]; exact HR.out.row, HR.out.bel⟩
              | (have e : ordX = List.range sizes.length := by simpa using HX2.out
                 exact ⟨rfl, by rw [← e, ← HOn.out]; exact HR.out.row, HR.out.bel⟩)
end Go.Proofs.YtomgcfjdmoefgaaDoor
