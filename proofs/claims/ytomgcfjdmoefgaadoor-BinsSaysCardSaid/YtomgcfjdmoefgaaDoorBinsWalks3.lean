/- WALKS: bins.First; ricksteadlaw5.binsFact. -/
import Derived.Test.YtomgcfjdmoefgaaDoorBinsWalks2
namespace Go.Proofs.YtomgcfjdmoefgaaDoor
open Go Go.RowKit BinsPlain

/-- the first `n` places -/
def nums (n : Nat) : List Int := (List.range n).map fun i : Nat => (i : Int)
theorem nums_length (n : Nat) : (nums n).length = n := by simp [nums]
theorem nums_succ (n : Nat) : nums (n + 1) = nums n ++ [(n : Int)] := by simp [nums, List.range_succ]

/-- into which box each goes, in the order in which they stand -/
def firstL (sizes : List Int) (room : Int) : List Int := fillS sizes room (List.range sizes.length) [] (List.replicate sizes.length 0)
theorem firstL_length (sizes : List Int) (room : Int) : (firstL sizes room).length = sizes.length := by unfold firstL; rw [fillS_length]; simp

/-- a new slice that reads as `xs`, and no error -/
def NewIntsOk (E : TypeId) (xs : List Int) (w : World) (e : Ending) (w' : World) : Prop :=
  ∃ g, e = .returned (.tuple #[.slice (some ⟨g, 0, none⟩) xs.length xs.length, .nilIface]) ∧ w.heap.size ≤ g ∧ Row w' g E xs ∧ Below w.heap.size w w'

theorem First_no (sizes : List Int) (room : Int) (a : Option Addr) (cap : Nat) (w : World) (hx : Ints w a sizes) (hl : sizes.length ≤ 9223372036854775807) (h : chk sizes room ≠ 0) :
    Calls Tryd.prog 37 #[.slice a sizes.length cap, .int .i64 room] w fun e w' => e = .returned (.tuple #[.slice none 0 0, .iface 81 (.int .i64 (chk sizes room))]) ∧ w = w' := by
  have H := Lib.hid h
  clear h
  go_enter Tryd.func37, Tryd.ntmps37
  go_wp2_with (go_at_call 35; refine (check_no sizes room a cap _ hx hl H.out).mono ?_; rintro e w' ⟨rfl, rfl⟩)
  go_ret2
  exact ⟨rfl, rfl⟩

theorem set_nums (k r : Nat) : (nums k ++ List.replicate (r + 1) 0).set k (k : Int) = nums (k + 1) ++ List.replicate r 0 := by
  rw [List.set_append_right _ _ (by rw [nums_length]; exact Nat.le_refl _), nums_length, nums_succ]
  simp [List.replicate_succ]

theorem First_yes (sizes : List Int) (room : Int) (a : Option Addr) (cap : Nat) (w : World) (hx : Ints w a sizes) (hf : Fine sizes room) :
    Calls Tryd.prog 37 #[.slice a sizes.length cap, .int .i64 room] w fun e w' => NewIntsOk 3 (firstL sizes room) w e w' := by
  have hs := hf.short
  have hc := fine_chk hf
  have Hc := Lib.hid hc
  clear hc
  have hmk := fun w => run_make_row' (P := Tryd.prog) 22 3 (.int .i64 0) 8 Tryd.underlying22 (by kernel_rfl) rfl .i64 .i64 sizes.length (by omega) (by omega) w
  go_enter Tryd.func37, Tryd.ntmps37
  go_wp2_with (go_at_call 35; refine (check_yes sizes room a cap _ hx (by omega) Hc.out).mono ?_; rintro e w' ⟨rfl, rfl⟩)
  go_loopw [20] (fun i wr => ∃ k : Nat, i = .int .i64 k ∧ k ≤ sizes.length ∧ Row wr w.heap.size 3 (nums k ++ List.replicate (sizes.length - k) 0) ∧ Below w.heap.size w wr)
    (fun i _ => sizes.length - (intOf i).toNat)
  case atStart =>
    refine ⟨0, rfl, Nat.zero_le _, ?_, (Below.refl _ _).alloc (Nat.le_refl _) _⟩
    have := Row.made w 3 sizes.length
    simpa [nums] using this
  case round =>
    obtain ⟨k, rfl, hk, hrow, hbel⟩ := hrel
    rcases Nat.lt_or_ge k sizes.length with hlt | hge
    · obtain ⟨r, hr⟩ : ∃ r, sizes.length - k = r + 1 := ⟨sizes.length - k - 1, by omega⟩
      rw [hr] at hrow
      have hcell := hrow.cell k (by rw [List.length_append, nums_length]; simp)
      obtain ⟨ov, hcell⟩ : ∃ ov, wr.cell? ⟨w.heap.size, k, none⟩ = some ov := ⟨_, hcell⟩
      have hfr := hrow.free k
      have Hr := Lib.hid hr
      clear hr
      go_wp2
      go_roundw
      case rel =>
        refine ⟨k + 1, by go_num, by omega, ?_, hbel.setCell (Nat.le_refl _) _⟩
        rw [show sizes.length - (k + 1) = r by have := Hr.out; omega, ← set_nums]
        exact hrow.set k _
      case measure => simp only [intOf]; omega
    · have hkn : k = sizes.length := by omega
      have h3 : ((sizes.length : Nat) : Int) ≤ (k : Int) := by omega
      have hrow' : Row wr w.heap.size 3 (nums sizes.length) := by rw [hkn] at hrow; simpa using hrow
      clear hkn hrow
      go_wp2_with fail
      have F := fill_any sizes a cap room (List.range sizes.length) (some ⟨w.heap.size, 0, none⟩) sizes.length wr (hx.below hbel) hf hrow'.ints (by simp; omega) (fun i hi => by simpa using hi)
      rw [List.length_range] at F
      refine F.mono ?_
      clear F
      rintro e w1 ⟨g, rfl, h1, h2, h4⟩
      go_wp2
      go_ret2
      exact ⟨g, rfl, by have := hbel.size; omega, h2, hbel.trans (h4.mono hbel.size)⟩
end Go.Proofs.YtomgcfjdmoefgaaDoor
