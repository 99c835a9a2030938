/- PLAIN AND WALKS: which error due.Whole and wed.Check tell. -/
import Derived.Test.YtomgcfjdmoefgaaDoorWedCheck
namespace Go.Proofs.YtomgcfjdmoefgaaDoor
open Go Go.RowKit

/-- what is wrong with a list of 0 .. n - 1, each once: the first fault -/
def wholeFrom (n : Nat) (had : List Int) : List Int → Int
  | [] => 0
  | x :: xs => if x < 0 ∨ (n : Int) - 1 < x then 1 else if x ∈ had then 6 else wholeFrom n (had ++ [x]) xs
def wholeC (n : Nat) (xs : List Int) : Int := if xs.length = n then wholeFrom n [] xs else 3
/-- on the way: what is still to be seen -/
def wholeAt (n : Nat) (xs : List Int) (k : Nat) : Int := wholeFrom n (xs.take k) (xs.drop k)
theorem drop_consI {xs : List Int} {k : Nat} (h : k < xs.length) : xs.drop k = xs.getD k 0 :: xs.drop (k + 1) := by
  rw [List.drop_eq_getElem_cons h, List.getD_eq_getElem?_getD, List.getElem?_eq_getElem h]; rfl
theorem wholeAt_zero (n : Nat) (xs : List Int) (h : xs.length = n) : wholeC n xs = wholeAt n xs 0 := by
  unfold wholeC wholeAt
  rw [if_pos h]; simp
theorem wholeAt_end (n : Nat) (xs : List Int) : wholeAt n xs xs.length = 0 := by
  unfold wholeAt
  simp [wholeFrom]
theorem wholeAt_range {n : Nat} {xs : List Int} {k : Nat} (h : k < xs.length) {v : Int} (hv : xs.getD k 0 = v) (h1 : v < 0 ∨ (n : Int) - 1 < v) : wholeAt n xs k = 1 := by
  unfold wholeAt
  rw [drop_consI h, hv, wholeFrom, if_pos h1]
theorem wholeAt_clash {n : Nat} {xs : List Int} {k : Nat} (h : k < xs.length) {v : Int} (hv : xs.getD k 0 = v) (h1 : 0 ≤ v) (h2 : v ≤ (n : Int) - 1) (h3 : v ∈ xs.take k) : wholeAt n xs k = 6 := by
  unfold wholeAt
  rw [drop_consI h, hv, wholeFrom, if_neg (by omega), if_pos h3]
theorem wholeAt_next {n : Nat} {xs : List Int} {k : Nat} (h : k < xs.length) {v : Int} (hv : xs.getD k 0 = v) (h1 : 0 ≤ v) (h2 : v ≤ (n : Int) - 1) (h3 : v ∉ xs.take k) : wholeAt n xs k = wholeAt n xs (k + 1) := by
  unfold wholeAt
  rw [drop_consI h, hv, wholeFrom, if_neg (by omega), if_neg h3, take_snocI h, hv]
theorem wholeFrom_ok (n : Nat) : ∀ (xs had : List Int), wholeFrom n had xs = 0 ↔ (∀ x ∈ xs, 0 ≤ x ∧ x < n) ∧ xs.Nodup ∧ ∀ x ∈ xs, x ∉ had
  | [], had => by simp [wholeFrom]
  | x :: xs, had => by
    rw [wholeFrom]
    by_cases c1 : x < 0 ∨ (n : Int) - 1 < x
    · rw [if_pos c1]
      exact ⟨fun h => by omega, fun h => by have := h.1 x (by simp); omega⟩
    · rw [if_neg c1]
      by_cases c2 : x ∈ had
      · rw [if_pos c2]
        exact ⟨fun h => by omega, fun h => absurd c2 (h.2.2 x (by simp))⟩
      · rw [if_neg c2, wholeFrom_ok n xs (had ++ [x])]
        constructor
        · rintro ⟨h1, h2, h3⟩
          refine ⟨fun y hy => ?_, List.nodup_cons.2 ⟨fun h => h3 x h (by simp), h2⟩, fun y hy => ?_⟩
          · rcases List.mem_cons.1 hy with rfl | hy
            · omega
            · exact h1 y hy
          · rcases List.mem_cons.1 hy with rfl | hy
            · exact c2
            · exact fun h => h3 y hy (List.mem_append.2 (.inl h))
        · rintro ⟨h1, h2, h3⟩
          rw [List.nodup_cons] at h2
          refine ⟨fun y hy => h1 y (List.mem_cons_of_mem _ hy), h2.2, fun y hy hm => ?_⟩
          rcases List.mem_append.1 hm with hm | hm
          · exact h3 y (List.mem_cons_of_mem _ hy) hm
          · rw [List.mem_singleton] at hm
            subst hm
            exact h2.1 hy
theorem wholeC_ok (n : Nat) (xs : List Int) : wholeC n xs = 0 ↔ AllOf n xs := by
  unfold wholeC
  by_cases h : xs.length = n
  · rw [if_pos h, wholeFrom_ok]
    exact ⟨fun ⟨h1, h2, _⟩ => ⟨h, h1, h2⟩, fun a => ⟨a.range, a.once, by simp⟩⟩
  · rw [if_neg h]
    exact ⟨fun c => by omega, fun a => absurd a.len h⟩

set_option maxHeartbeats 1000000 in
theorem Whole_code (n : Nat) (xs : List Int) (a : Option Addr) (cap : Nat) (w : World) (hx : Ints w a xs) (hn : n ≤ 1000) (hl : xs.length ≤ 9223372036854775807) :
    Calls Tryd.prog 65 #[.int .i64 n, .slice a xs.length cap] w fun e w' => e = .returned (errV 81 (wholeC n xs)) ∧ Below w.heap.size w w' := by
  by_cases hln : xs.length = n
  · subst hln
    rw [wholeAt_zero xs.length xs rfl]
    obtain ⟨c, hc⟩ : ∃ c, wholeAt xs.length xs 0 = c := ⟨_, rfl⟩
    rw [hc]
    have Hc := Lib.hid hc
    clear hc
    have hne : ((xs.length : Int) != (xs.length : Int)) = false := by simp
    have hmk := fun w => run_make_row' (P := Tryd.prog) 106 4 (.bool false) 1 Tryd.underlying106 (by kernel_rfl) rfl .i64 .i64 xs.length (by omega) (by omega) w
    go_enter Tryd.func65, Tryd.ntmps65
    go_wp2
    go_loopw [17] (fun i wr => ∃ k : Nat, i = .int .i64 k ∧ k ≤ xs.length ∧ wholeAt xs.length xs k = c ∧ wr.rowIs w.heap.size 4 xs.length (fun j => .bool (decide ((j : Int) ∈ xs.take k))) ∧ Below w.heap.size w wr)
      (fun i _ => xs.length - (intOf i).toNat)
    case atStart => exact ⟨0, rfl, Nat.zero_le _, Hc.out, (World.rowIs_made w (.bool false) xs.length 4).congr (fun j _ => by simp), (Below.refl _ _).alloc (Nat.le_refl _) _⟩
    case round =>
      obtain ⟨k, rfl, hk, hC, hrow, hb⟩ := hrel
      have HC := Lib.hid hC
      have Hrow := Lib.hid hrow
      have Hb := Lib.hid hb
      clear hC
      rcases Nat.lt_or_ge k xs.length with hlt | hge
      · obtain ⟨b, off, rfl, hc⟩ := (hx.below hb).open (by omega)
        have hck := hc k hlt
        have hts := take_snocI hlt
        have hr := wholeAt_range (n := xs.length) hlt (v := xs.getD k 0) rfl
        have hcl := wholeAt_clash (n := xs.length) hlt (v := xs.getD k 0) rfl
        have hnx := wholeAt_next (n := xs.length) hlt (v := xs.getD k 0) rfl
        clear hc
        generalize xs.getD k 0 = v at *
        have Hts := Lib.hid hts
        clear hts hrow hb
        by_cases h1 : 0 ≤ v ∧ v ≤ (xs.length : Int) - 1
        · obtain ⟨p1, p2⟩ := h1
          obtain ⟨u, rfl⟩ := Int.eq_ofNat_of_zero_le p1
          have hu : u < xs.length := by omega
          have huI : (u : Int) < (xs.length : Int) := by omega
          have c1 := Hrow.out.cell hu
          have f1 := Hrow.out.frozen u
          have hW := Lib.hid (fun w0 => within_yes (u : Int) 0 ((xs.length : Int) - 1) p1 p2 w0)
          by_cases h2 : (u : Int) ∈ xs.take k
          · rw [decide_eq_true h2] at c1
            have hbad := Lib.hid (hcl p1 p2 h2)
            clear h2 hr hcl hnx
            go_wp2_with fail
            refine (hW.out _).mono ?_
            rintro e w' ⟨rfl, rfl⟩
            go_wp2
            go_ret
            exact ⟨by rw [← HC.out, hbad.out]; rfl, Hb.out⟩
          · rw [decide_eq_false h2] at c1
            have H2 := Lib.hid h2
            have HN := Lib.hid (hnx p1 p2 h2)
            clear h2 hr hcl hnx
            go_wp2_with fail
            refine (hW.out _).mono ?_
            rintro e w' ⟨rfl, rfl⟩
            go_wp2
            go_roundw
            case rel =>
              refine ⟨k + 1, by go_num, by omega, by rw [← HN.out]; exact HC.out, ?_, Hb.out.setCell (p := ⟨w.heap.size, u, none⟩) (Nat.le_refl _) _⟩
              refine (Hrow.out.set u (.bool true)).congr (fun j _ => ?_)
              rw [Hts.out]
              by_cases e : j = u
              · subst e; rw [if_pos rfl, decide_eq_true (by simp)]
              · rw [if_neg e]
                congr 1
                rw [decide_eq_decide, List.mem_append, List.mem_singleton]
                exact ⟨.inl, fun h => h.resolve_right (by omega)⟩
            case measure => simp only [intOf]; omega
        · have hv : v < 0 ∨ (xs.length : Int) - 1 < v := by omega
          have hW := Lib.hid (fun w0 => within_no v 0 ((xs.length : Int) - 1) hv w0)
          have Hbad := Lib.hid (hr hv)
          clear h1 hv hr hcl hnx
          go_wp2_with fail
          refine (hW.out _).mono ?_
          rintro e w' ⟨rfl, rfl⟩
          go_wp2
          go_ret
          exact ⟨by rw [← HC.out, Hbad.out]; rfl, Hb.out⟩
      · obtain rfl : xs.length = k := by omega
        have h3 : decide (xs.length < xs.length) = false := by simp
        have h0 := wholeAt_end xs.length xs
        rw [HC.out] at h0
        have H0 := Lib.hid h0
        clear hrow hb h0
        go_wp2
        go_ret
        exact ⟨by rw [H0.out]; rfl, Hb.out⟩
  · have hne : ((xs.length : Int) != (n : Int)) = true := by rw [bne_iff_ne]; omega
    have e : wholeC n xs = 3 := by unfold wholeC; rw [if_neg hln]
    rw [e]
    clear hln e
    go_enter Tryd.func65, Tryd.ntmps65
    go_wp2
    go_ret
    exact ⟨rfl, Below.refl _ _⟩

/-- the first row at fault -/
def rowsC (n : Nat) : List (List Int) → Int
  | [] => 0
  | r :: m => if wholeC n r = 0 then rowsC n m else wholeC n r
theorem rowsC_ok (n : Nat) : ∀ m : List (List Int), rowsC n m = 0 ↔ ∀ r ∈ m, AllOf n r
  | [] => by simp [rowsC]
  | r :: m => by
    rw [rowsC]
    by_cases c : wholeC n r = 0
    · rw [if_pos c, rowsC_ok n m]
      exact ⟨fun h x hx => by
        rcases List.mem_cons.1 hx with rfl | hx
        · exact (wholeC_ok n x).1 c
        · exact h x hx, fun h x hx => h x (List.mem_cons_of_mem _ hx)⟩
    · rw [if_neg c]
      exact ⟨fun h => absurd h c, fun h => absurd ((wholeC_ok n r).2 (h r (by simp))) c⟩
def rowsAt (n : Nat) (m : List (List Int)) (k : Nat) : Int := rowsC n (m.drop k)
theorem drop_consM {m : List (List Int)} {k : Nat} (h : k < m.length) : m.drop k = m.getD k [] :: m.drop (k + 1) := by
  rw [List.drop_eq_getElem_cons h, List.getD_eq_getElem?_getD, List.getElem?_eq_getElem h]; rfl
theorem rowsAt_step {n : Nat} {m : List (List Int)} {k : Nat} (h : k < m.length) : rowsAt n m k = if wholeC n (m.getD k []) = 0 then rowsAt n m (k + 1) else wholeC n (m.getD k []) := by
  unfold rowsAt
  rw [drop_consM h, rowsC]
theorem rowsAt_end (n : Nat) (m : List (List Int)) : rowsAt n m m.length = 0 := by unfold rowsAt; simp [rowsC]
/-- what is wrong with two sides -/
def sidesC (A B : List (List Int)) : Int :=
  if 8 < A.length ∨ 8 < B.length then 4 else if A.length = B.length then (if rowsC A.length A = 0 then rowsC A.length B else rowsC A.length A) else 3
theorem side_mem {n : Nat} {m : List (List Int)} : Side n m ↔ ∀ r ∈ m, AllOf n r := by
  unfold Side
  constructor
  · intro h r hr
    obtain ⟨i, hi, rfl⟩ := List.mem_iff_getElem.1 hr
    have := h i hi
    rwa [List.getD_eq_getElem?_getD, List.getElem?_eq_getElem hi] at this
  · intro h i hi
    rw [List.getD_eq_getElem?_getD, List.getElem?_eq_getElem hi]
    exact h _ (List.getElem_mem hi)
theorem sidesC_ok (A B : List (List Int)) : sidesC A B = 0 ↔ FineW A B := by
  unfold sidesC
  by_cases h : 8 < A.length ∨ 8 < B.length
  · rw [if_pos h]
    exact ⟨fun c => by omega, fun f => by have := f.short; have := f.same; omega⟩
  · rw [if_neg h]
    by_cases h2 : A.length = B.length
    · rw [if_pos h2]
      by_cases h3 : rowsC A.length A = 0
      · rw [if_pos h3, rowsC_ok]
        exact ⟨fun c => ⟨by omega, h2.symm, side_mem.2 ((rowsC_ok _ _).1 h3), side_mem.2 c⟩, fun f => side_mem.1 f.b⟩
      · rw [if_neg h3]
        exact ⟨fun c => absurd c h3, fun f => absurd ((rowsC_ok _ _).2 (side_mem.1 f.a)) h3⟩
    · rw [if_neg h2]
      exact ⟨fun c => by omega, fun f => absurd f.same.symm h2⟩

set_option maxHeartbeats 2000000 in
theorem CheckW_code (A B : List (List Int)) (a b : Option Addr) (cap cap' : Nat) (w : World) (hx : Mat w a A) (hy : Mat w b B) (hl : A.length ≤ 9223372036854775807) (hl' : B.length ≤ 9223372036854775807) :
    Calls Tryd.prog 28 #[.slice a A.length cap, .slice b B.length cap'] w fun e w' => e = .returned (errV 81 (sidesC A B)) ∧ Below w.heap.size w w' := by
  rcases Nat.lt_or_ge 8 A.length with h1 | h1
  · have h1' : (8 : Int) < A.length := by omega
    have e : sidesC A B = 4 := by unfold sidesC; rw [if_pos (.inl h1)]
    rw [e]
    clear e
    go_enter Tryd.func28, Tryd.ntmps28
    go_wp2
    go_ret
    exact ⟨rfl, Below.refl _ _⟩
  · have h1' : (A.length : Int) ≤ 8 := by omega
    rcases Nat.lt_or_ge 8 B.length with h2 | h2
    · have h2' : (8 : Int) < B.length := by omega
      have e : sidesC A B = 4 := by unfold sidesC; rw [if_pos (.inr h2)]
      rw [e]
      clear e
      go_enter Tryd.func28, Tryd.ntmps28
      go_wp2
      go_ret
      exact ⟨rfl, Below.refl _ _⟩
    · have h2' : (B.length : Int) ≤ 8 := by omega
      by_cases h3 : B.length = A.length
      · have hne : ((B.length : Int) != (A.length : Int)) = false := by rw [bne_eq_false_iff_eq]; omega
        have hsd : sidesC A B = if rowsAt A.length A 0 = 0 then rowsAt A.length B 0 else rowsAt A.length A 0 := by
          unfold sidesC rowsAt
          rw [if_neg (by omega), if_pos h3.symm]; simp
        obtain ⟨ca, hca⟩ : ∃ c, rowsAt A.length A 0 = c := ⟨_, rfl⟩
        obtain ⟨cb, hcb⟩ : ∃ c, rowsAt A.length B 0 = c := ⟨_, rfl⟩
        rw [hca, hcb] at hsd
        rw [hsd]
        obtain ⟨cz, hcz⟩ : ∃ c, (if ca = 0 then cb else ca) = c := ⟨_, rfl⟩
        rw [hcz]
        have Hcz := Lib.hid hcz
        have Hca := Lib.hid hca
        have Hcb := Lib.hid hcb
        have H3 := Lib.hid h3
        clear h3 hsd hca hcb hcz
        go_enter Tryd.func28, Tryd.ntmps28
        have ix0 : ∀ (x0 x1 : Value) (w : World), (Instr.index 83 (.agg #[x0, x1]) (.int .i64 0)).run Tryd.prog w = .ok x0 w := fun x0 x1 w => by kernel_rfl
        have ix1 : ∀ (x0 x1 : Value) (w : World), (Instr.index 83 (.agg #[x0, x1]) (.int .i64 1)).run Tryd.prog w = .ok x1 w := fun x0 x1 w => by kernel_rfl
        go_wp2
        go_loopw [29] (fun i wr => ∃ j : Nat, i = .int .i64 j ∧ j ≤ 2 ∧ (1 ≤ j → ca = 0) ∧ (2 ≤ j → cb = 0) ∧ Below w.heap.size w wr) (fun i _ => 2 - (intOf i).toNat)
        case atStart => exact ⟨0, rfl, by omega, fun h => by omega, fun h => by omega, Below.refl _ _⟩
        case round =>
          obtain ⟨j, rfl, hj, hA1, hB1, hb⟩ := hrel
          have HA1 := Lib.hid hA1
          have HB1 := Lib.hid hB1
          clear hA1 hB1
          have hj3 : j = 0 ∨ j = 1 ∨ j = 2 := by omega
          rcases hj3 with rfl | rfl | rfl
          · rw [show ((0 : Nat) : Int) = 0 from rfl]
            go_wp2
            go_loopw [34] (fun i wx => ∃ k : Nat, i = .int .i64 k ∧ k ≤ A.length ∧ rowsAt A.length A k = ca ∧ Below w.heap.size w wx) (fun i _ => A.length - (intOf i).toNat)
            case atStart => exact ⟨0, rfl, Nat.zero_le _, Hca.out, hb⟩
            case round =>
              obtain ⟨k, rfl, hk, hall, hbx⟩ := hrel
              have Hall := Lib.hid hall
              clear hall
              rcases Nat.lt_or_ge k A.length with hlt | hge
              · obtain ⟨bm, om, rfl, hbm, hcm⟩ := (hx.below hbx).open (by omega)
                obtain ⟨ai, ci, c1, c2, c3⟩ := hcm k hlt
                have hW := Whole_code A.length (A.getD k []) ai ci wr c2 (by omega) c3
                have hst := rowsAt_step (n := A.length) hlt
                rw [Hall.out] at hst
                clear hcm c2
                obtain ⟨row, hrow⟩ : ∃ row, A.getD k [] = row := ⟨_, rfl⟩
                rw [hrow] at c1 c3 hW hst
                obtain ⟨cc, hcc⟩ : ∃ cc, wholeC A.length row = cc := ⟨_, rfl⟩
                rw [hcc] at hW hst
                have HW := Lib.hid hW
                clear hrow hcc hW
                by_cases h0 : cc = 0
                · subst h0
                  rw [if_pos rfl] at hst
                  rw [errV_ok] at HW
                  have Hst := Lib.hid hst
                  clear hst
                  go_wp2_with fail
                  refine HW.out.mono ?_
                  rintro e w2 ⟨rfl, hb2⟩
                  have hb3 := hbx.trans (hb2.mono hbx.size)
                  go_wp2
                  go_roundw
                  case rel => exact ⟨k + 1, by go_num, by omega, Hst.out.symm, hb3⟩
                  case measure => simp only [intOf]; omega
                · rw [if_neg h0] at hst
                  rw [errV_bad h0] at HW
                  have Hst := Lib.hid hst
                  have H0 := Lib.hid h0
                  clear hst h0
                  go_wp2_with fail
                  refine HW.out.mono ?_
                  rintro e w2 ⟨rfl, hb2⟩
                  have hb3 := hbx.trans (hb2.mono hbx.size)
                  go_wp2
                  all_goals
                    go_ret
                    exact ⟨by rw [← Hcz.out, Hst.out, if_neg H0.out, errV_bad H0.out]; rfl, hb3⟩
              · obtain rfl : A.length = k := by omega
                have hz : ca = 0 := by rw [← Hall.out]; exact rowsAt_end _ _
                have Hz := Lib.hid hz
                clear hz
                have h5 : decide (A.length < A.length) = false := by simp
                go_wp2
                go_roundw
                case rel => exact ⟨1, rfl, by omega, fun _ => Hz.out, fun h => by omega, hbx⟩
                case measure => simp only [intOf]; omega
          · rw [show ((1 : Nat) : Int) = 1 from rfl]
            have HA0 := Lib.hid (HA1.out (Nat.le_refl _))
            go_wp2
            go_loopw [34] (fun i wx => ∃ k : Nat, i = .int .i64 k ∧ k ≤ B.length ∧ rowsAt A.length B k = cb ∧ Below w.heap.size w wx) (fun i _ => B.length - (intOf i).toNat)
            case atStart => exact ⟨0, rfl, Nat.zero_le _, Hcb.out, hb⟩
            case round =>
              obtain ⟨k, rfl, hk, hall, hbx⟩ := hrel
              have Hall := Lib.hid hall
              clear hall
              rcases Nat.lt_or_ge k B.length with hlt | hge
              · obtain ⟨bm, om, rfl, hbm, hcm⟩ := (hy.below hbx).open (by omega)
                obtain ⟨ai, ci, c1, c2, c3⟩ := hcm k hlt
                have hW := Whole_code A.length (B.getD k []) ai ci wr c2 (by omega) c3
                have hst := rowsAt_step (n := A.length) hlt
                rw [Hall.out] at hst
                clear hcm c2
                obtain ⟨row, hrow⟩ : ∃ row, B.getD k [] = row := ⟨_, rfl⟩
                rw [hrow] at c1 c3 hW hst
                obtain ⟨cc, hcc⟩ : ∃ cc, wholeC A.length row = cc := ⟨_, rfl⟩
                rw [hcc] at hW hst
                have HW := Lib.hid hW
                clear hrow hcc hW
                by_cases h0 : cc = 0
                · subst h0
                  rw [if_pos rfl] at hst
                  rw [errV_ok] at HW
                  have Hst := Lib.hid hst
                  clear hst
                  go_wp2_with fail
                  refine HW.out.mono ?_
                  rintro e w2 ⟨rfl, hb2⟩
                  have hb3 := hbx.trans (hb2.mono hbx.size)
                  go_wp2
                  go_roundw
                  case rel => exact ⟨k + 1, by go_num, by omega, Hst.out.symm, hb3⟩
                  case measure => simp only [intOf]; omega
                · rw [if_neg h0] at hst
                  rw [errV_bad h0] at HW
                  have Hst := Lib.hid hst
                  have H0 := Lib.hid h0
                  clear hst h0
                  go_wp2_with fail
                  refine HW.out.mono ?_
                  rintro e w2 ⟨rfl, hb2⟩
                  have hb3 := hbx.trans (hb2.mono hbx.size)
                  go_wp2
                  all_goals
                    go_ret
                    exact ⟨by rw [← Hcz.out, HA0.out, if_pos rfl, Hst.out, errV_bad H0.out]; rfl, hb3⟩
              · obtain rfl : B.length = k := by omega
                have hz : cb = 0 := by rw [← Hall.out]; exact rowsAt_end _ _
                have Hz := Lib.hid hz
                clear hz
                have h5 : decide (B.length < B.length) = false := by simp
                go_wp2
                go_roundw
                case rel => exact ⟨2, rfl, by omega, fun _ => HA0.out, fun _ => Hz.out, hbx⟩
                case measure => simp only [intOf]; omega
          · rw [show ((2 : Nat) : Int) = 2 from rfl]
            have HA0 := Lib.hid (HA1.out (by omega))
            have HB0 := Lib.hid (HB1.out (by omega))
            go_wp2
            go_ret
            exact ⟨by rw [← Hcz.out, HA0.out, if_pos rfl, HB0.out]; rfl, hb⟩
      · have hne : ((B.length : Int) != (A.length : Int)) = true := by rw [bne_iff_ne]; omega
        have e : sidesC A B = 3 := by unfold sidesC; rw [if_neg (by omega), if_neg (by omega)]
        rw [e]
        clear h3 e
        go_enter Tryd.func28, Tryd.ntmps28
        go_wp2
        go_ret
        exact ⟨rfl, Below.refl _ _⟩
end Go.Proofs.YtomgcfjdmoefgaaDoor
