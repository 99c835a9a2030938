/- WALKS: share.give, share.places, share.List, share.Load: what each computes. -/
import Derived.Test.YtomgcfjdmoefgaaDoorShareWalks
namespace Go.Proofs.YtomgcfjdmoefgaaDoor
open Go Go.RowKit SharePlain PackPlain ShareLaw

/-- a new slice of ints -/
def NewInts (xs : List Int) (w : World) (e : Ending) (w' : World) : Prop :=
  ∃ g, e = .returned (.slice (some ⟨g, 0, none⟩) xs.length xs.length) ∧ w.heap.size ≤ g ∧ Row w' g 3 xs ∧ Below w.heap.size w w'
def NewIntsOk (xs : List Int) (w : World) (e : Ending) (w' : World) : Prop :=
  ∃ g, e = .returned (.tuple #[.slice (some ⟨g, 0, none⟩) xs.length xs.length, .nilIface]) ∧ w.heap.size ≤ g ∧ Row w' g 3 xs ∧ Below w.heap.size w w'

/-- what give's loop keeps -/
structure GiveRel (times : List Int) (ord : List Nat) (w : World) (j : Nat) (load out : List Int) (m : Nat) (wr : World) : Prop where
  hj : j ≤ ord.length
  lo : Row wr (w.heap.size + 1) 3 load
  ou : Row wr w.heap.size 3 out
  ll : load.length = m
  ol : out.length = times.length
  bnd : ∀ c, 0 ≤ load.getD c 0 ∧ load.getD c 0 ≤ 1000 * j
  bel : Below w.heap.size w wr
  eq : giveL times ord m = giveS times (ord.drop j) load out

set_option maxHeartbeats 1000000 in
theorem give_any (times : List Int) (a : Option Addr) (cap : Nat) (m : Nat) (ord : List Nat) (ao : Option Addr) (capo : Nat) (w : World)
    (hx : Ints w a times) (hf : Fine times m) (ho : Ints w ao (ord.map fun i : Nat => (i : Int))) (hol : ord.length ≤ 16) (hor : ∀ i ∈ ord, i < times.length) :
    Calls Tryd.prog 82 #[.slice a times.length cap, .slice ao ord.length capo, .int .i64 m] w fun e w' => NewInts (giveL times ord m) w e w' := by
  have hs := hf.short
  have r1 := hf.r1
  have r2 := hf.r2
  have hmk := fun w => run_make_row' (P := Tryd.prog) 22 3 (.int .i64 0) 8 Tryd.underlying22 (by kernel_rfl) rfl .i64 .i64 times.length (by omega) (by omega) w
  have hmk2 := fun w => run_make_row' (P := Tryd.prog) 22 3 (.int .i64 0) 8 Tryd.underlying22 (by kernel_rfl) rfl .i64 .i64 m (by omega) (by omega) w
  go_enter Tryd.func82, Tryd.ntmps82
  go_wp2
  go_loopw [19] (fun idx wr => ∃ (j : Nat) (load out : List Int), idx = .int .i64 j ∧ GiveRel times ord w j load out m wr)
    (fun i _ => ord.length - (intOf i).toNat)
  case atStart =>
    refine ⟨0, List.replicate m 0, List.replicate times.length 0, rfl, ⟨Nat.zero_le _, ?_, ?_, by simp, by simp, fun c => ?_, ?_, rfl⟩⟩
    · have := Row.made (w.alloc (.cells (madeCells #[.int .i64 0] times.length) 3)) 3 m
      simpa using this
    · exact (Row.made w 3 times.length).alloc _
    · rw [List.getD_eq_getElem?_getD, List.getElem?_replicate]; split <;> simp
    · exact ((Below.refl _ _).alloc (Nat.le_refl _) _).alloc (by simp) _
  case round =>
    obtain ⟨j, load, out, rfl, R⟩ := hrel
    rcases Nat.lt_or_ge j ord.length with hlt | hge
    · obtain ⟨bo, oo, rfl, hco⟩ := ho.open (by simp; omega)
      have hcj := hco j (by simp; omega)
      obtain ⟨i, hij⟩ : ∃ i, ord[j]? = some i := ⟨_, List.getElem?_eq_getElem hlt⟩
      have him : i ∈ ord := List.mem_of_getElem? hij
      have hil := hor i him
      have hgi : (ord.map fun i : Nat => (i : Int)).getD j 0 = (i : Int) := by rw [List.getD_eq_getElem?_getD, List.getElem?_map, hij]; rfl
      rw [hgi] at hcj
      have hbo : bo < w.heap.size := World.block_lt_of_cell? w _ hcj
      rw [← R.bel.cell (p := ⟨bo, oo + j, none⟩) hbo] at hcj
      have hdrop : ord.drop j = i :: ord.drop (j + 1) := by
        rw [List.drop_eq_getElem_cons hlt]; congr 1
        rw [List.getElem?_eq_getElem hlt] at hij; simpa using hij
      have Hdrop := Lib.hid hdrop
      clear hco hgi hij hdrop
      have hsi := hf.all _ (getD_mem times i hil)
      obtain ⟨b, off, rfl, hcs⟩ := hx.open (by omega)
      have hcsi := hcs i hil
      have hbs : b < w.heap.size := World.block_lt_of_cell? w _ hcsi
      rw [← R.bel.cell (p := ⟨b, off + i, none⟩) hbs] at hcsi
      clear hcs
      have hm0 : 0 < load.length := by rw [R.ll]; omega
      have hml : load.length ≤ 1000 := by rw [R.ll]; omega
      have hll := R.ll
      have hMin := fun w0 (h : Ints w0 (some ⟨w.heap.size + 1, 0, none⟩) load) => Min_any load (some ⟨w.heap.size + 1, 0, none⟩) m w0 h hm0 hml
      have hIdx := fun v w0 (h : Ints w0 (some ⟨w.heap.size + 1, 0, none⟩) load) hv => Index_any load v (some ⟨w.heap.size + 1, 0, none⟩) m w0 h hv hml
      rw [hll] at hMin hIdx
      have Hll := Lib.hid hll
      clear hll
      go_wp2_with fail
      refine (hMin _ R.lo.ints).mono ?_
      rintro e w2 ⟨⟨v, rfl, hmin⟩, rfl⟩
      go_wp2_with fail
      refine (hIdx v _ R.lo.ints (by rw [← Hll.out]; exact hmin.1)).mono ?_
      rintro e w2 ⟨⟨k, rfl, hk, hkv, hkf⟩, rfl⟩
      have hkl := least_eq hmin (by rw [Hll.out]; exact hk) hkv hkf
      clear hmin hkf hMin hIdx
      have lk := R.lo.cell k (by rw [Hll.out]; exact hk)
      have lf := R.lo.free k
      have ok := R.ou.cell i (by rw [R.ol]; exact hil)
      have of := R.ou.free i
      obtain ⟨ov, ok⟩ : ∃ ov, wr.cell? ⟨w.heap.size, i, none⟩ = some ov := ⟨_, ok⟩
      have hb := R.bnd k
      have hlow := R.lo.lt
      have how := R.ou.lt
      have HR := Lib.hid R
      have Hkl := Lib.hid hkl
      clear R hkl
      generalize hv : times.getD i 0 = t at hcsi hsi
      generalize hu : load.getD k 0 = u at lk hb hkv
      have Hv := Lib.hid hv
      have Hu := Lib.hid hu
      clear hv hu hkv
      have hne1 : ¬ b = w.heap.size := by omega
      have hne2 : ¬ b = w.heap.size + 1 := by omega
      have hbj : (1000 : Int) * j ≤ 16000 := by omega
      go_wp2
      go_region
      go_wp2
      go_roundw
      case rel =>
        have R := HR.out
        refine ⟨j + 1, load.set k (u + t), out.set i (k : Nat), by go_num, ⟨by omega, ?_, ?_, by simpa using R.ll, by simpa using R.ol, fun c => ?_, ?_, ?_⟩⟩
        · exact ((R.lo.other ⟨w.heap.size, i, none⟩ (by show w.heap.size + 1 ≠ w.heap.size; omega) _).set k _).drew
        · exact (Row.other (R.ou.set i _) ⟨w.heap.size + 1, k, none⟩ (by show w.heap.size ≠ w.heap.size + 1; omega) _).drew
        · have hb' := R.bnd c
          by_cases e : k = c
          · subst e
            rw [getD_set_eq _ _ _ (by rw [R.ll]; exact hk)]; omega
          · rw [ShareLaw.getD_set_ne _ _ _ _ e]; omega
        · exact ((R.bel.setCell (p := ⟨w.heap.size, i, none⟩) (Nat.le_refl _) _).setCell (p := ⟨w.heap.size + 1, k, none⟩) (by show w.heap.size ≤ w.heap.size + 1; omega) _).drew
        · rw [R.eq, Hdrop.out, giveS, ← Hkl.out, Hu.out, Hv.out]
      case measure => simp only [intOf]; omega
    · have h3 : ((ord.length : Nat) : Int) ≤ (j : Int) := by omega
      go_wp2
      go_ret
      have e : giveL times ord m = out := by rw [R.eq, List.drop_of_length_le hge]; rfl
      rw [e]
      exact ⟨w.heap.size, by rw [R.ol]; rfl, Nat.le_refl _, R.ou, R.bel⟩

/-! ### places -/
def nums (n : Nat) : List Int := (List.range n).map fun i : Nat => (i : Int)
theorem nums_length (n : Nat) : (nums n).length = n := by simp [nums]
theorem nums_succ (n : Nat) : nums (n + 1) = nums n ++ [(n : Int)] := by simp [nums, List.range_succ]
theorem set_nums (k r : Nat) : (nums k ++ List.replicate (r + 1) 0).set k (k : Int) = nums (k + 1) ++ List.replicate r 0 := by
  rw [List.set_append_right _ _ (by rw [nums_length]; exact Nat.le_refl _), nums_length, nums_succ]
  simp [List.replicate_succ]
theorem places_any (n : Nat) (hn : n ≤ 16) (w : World) :
    Calls Tryd.prog 83 #[.int .i64 n] w fun e w' => NewInts (nums n) w e w' := by
  have hmk := fun w => run_make_row' (P := Tryd.prog) 22 3 (.int .i64 0) 8 Tryd.underlying22 (by kernel_rfl) rfl .i64 .i64 n (by omega) (by omega) w
  go_enter Tryd.func83, Tryd.ntmps83
  go_wp2
  go_loopw [9] (fun i wr => ∃ k : Nat, i = .int .i64 k ∧ k ≤ n ∧ Row wr w.heap.size 3 (nums k ++ List.replicate (n - k) 0) ∧ Below w.heap.size w wr)
    (fun i _ => n - (intOf i).toNat)
  case atStart =>
    refine ⟨0, rfl, Nat.zero_le _, ?_, (Below.refl _ _).alloc (Nat.le_refl _) _⟩
    have := Row.made w 3 n
    simpa [nums] using this
  case round =>
    obtain ⟨k, rfl, hk, hrow, hbel⟩ := hrel
    rcases Nat.lt_or_ge k n with hlt | hge
    · obtain ⟨r, hr⟩ : ∃ r, n - k = r + 1 := ⟨n - k - 1, by omega⟩
      rw [hr] at hrow
      have hcell := hrow.cell k (by rw [List.length_append, nums_length]; simp)
      obtain ⟨ov, hcell⟩ : ∃ ov, wr.cell? ⟨w.heap.size, k, none⟩ = some ov := ⟨_, hcell⟩
      have hfr := hrow.free k
      have Hr := Lib.hid hr
      clear hr
      go_wp2
      go_roundw
      case rel =>
        refine ⟨k + 1, by go_num, by omega, ?_, hbel.setCell (Nat.le_refl _) _⟩
        rw [show n - (k + 1) = r by have := Hr.out; omega, ← set_nums]
        exact hrow.set k _
      case measure => simp only [intOf]; omega
    · have hkn : k = n := by omega
      have h3 : (n : Int) ≤ (k : Int) := by omega
      have hrow' : Row wr w.heap.size 3 (nums n) := by rw [hkn] at hrow; simpa using hrow
      clear hkn hrow
      go_wp2
      go_ret
      exact ⟨w.heap.size, by rw [nums_length]; rfl, Nat.le_refl _, hrow', hbel⟩

/-! ### List -/
theorem List_no (times : List Int) (mach : Int) (a : Option Addr) (cap : Nat) (w : World) (hx : Ints w a times) (hl : times.length ≤ 9223372036854775807) (h : chk times mach ≠ 0) :
    Calls Tryd.prog 51 #[.slice a times.length cap, .int .i64 mach] w fun e w' => e = .returned (.tuple #[.slice none 0 0, .iface 81 (.int .i64 (chk times mach))]) ∧ w = w' := by
  have H := Lib.hid h
  clear h
  go_enter Tryd.func51, Tryd.ntmps51
  go_wp2_with (go_at_call 49; refine (check_no times mach a cap _ hx hl H.out).mono ?_; rintro e w' ⟨rfl, rfl⟩)
  go_ret2
  exact ⟨rfl, rfl⟩
def listL (times : List Int) (m : Nat) : List Int := giveL times (List.range times.length) m
theorem listL_length (times : List Int) (m : Nat) : (listL times m).length = times.length := by unfold listL giveL; rw [giveS_length]; simp
theorem List_yes (times : List Int) (m : Nat) (a : Option Addr) (cap : Nat) (w : World) (hx : Ints w a times) (hf : Fine times m) :
    Calls Tryd.prog 51 #[.slice a times.length cap, .int .i64 m] w fun e w' => NewIntsOk (listL times m) w e w' := by
  have hs := hf.short
  have hc := fine_chk hf
  have Hc := Lib.hid hc
  clear hc
  go_enter Tryd.func51, Tryd.ntmps51
  go_wp2_with (go_at_call 49; refine (check_yes times m a cap _ hx (by omega) Hc.out).mono ?_; rintro e w' ⟨rfl, rfl⟩)
  refine (places_any times.length hs _).mono ?_
  rintro e w1 ⟨g, rfl, h1, h2, h3⟩
  rw [nums_length]
  go_wp2_with fail
  have F := give_any times a cap m (List.range times.length) (some ⟨g, 0, none⟩) times.length w1 (hx.below h3) hf h2.ints (by simp; omega) (fun i hi => by simpa using hi)
  rw [List.length_range] at F
  refine F.mono ?_
  clear F
  rintro e w2 ⟨g2, rfl, h4, h5, h6⟩
  go_wp2
  go_ret2
  exact ⟨g2, rfl, by have := h3.size; omega, h5, h3.trans (h6.mono h3.size)⟩
end Go.Proofs.YtomgcfjdmoefgaaDoor
