/- WALKS: bins.Falling. -/
import Derived.Test.YtomgcfjdmoefgaaDoorBinsManyC
import Derived.Test.YtomgcfjdmoefgaaDoorBinsSort
import Derived.Test.YtomgcfjdmoefgaaDoorBinsTwicePlain
namespace Go.Proofs.YtomgcfjdmoefgaaDoor
open Go Go.RowKit BinsPlain PackPlain SortPlain TwicePlain

theorem Falling_no (sizes : List Int) (room : Int) (a : Option Addr) (cap : Nat) (w : World) (hx : Ints w a sizes) (hl : sizes.length ≤ 9223372036854775807) (h : chk sizes room ≠ 0) :
    Calls Tryd.prog 38 #[.slice a sizes.length cap, .int .i64 room] w fun e w' => e = .returned (.tuple #[.slice none 0 0, .iface 81 (.int .i64 (chk sizes room))]) ∧ Below w.heap.size w w' := by
  have H := Lib.hid h
  clear h
  have hx1 := hx.below ((Below.refl w.heap.size w).alloc (Nat.le_refl _) (.cells #[.slice a sizes.length cap] 22))
  go_enter Tryd.func38, Tryd.ntmps38
  go_wp2_with (go_at_call 35; refine (check_no sizes room a cap _ hx1 hl H.out).mono ?_; rintro e w' ⟨rfl, rfl⟩)
  go_ret2
  exact ⟨rfl, (Below.refl _ _).alloc (Nat.le_refl _) _⟩

/-- what Falling makes -/
def FallRes (sizes : List Int) (room : Int) (w : World) (e : Ending) (w' : World) : Prop := ∃ ord, Falls sizes sizes.length ord ∧ NewIntsOk 3 (fillL sizes room ord) w e w'
set_option maxRecDepth 100000 in
set_option maxHeartbeats 1000000 in
theorem Falling_yes (sizes : List Int) (room : Int) (a : Option Addr) (cap : Nat) (w : World) (hx : Ints w a sizes) (hf : Fine sizes room) :
    Calls Tryd.prog 38 #[.slice a sizes.length cap, .int .i64 room] w fun e w' => FallRes sizes room w e w' := by
  have hs := hf.short
  have hc := fine_chk hf
  have Hc := Lib.hid hc
  clear hc
  have bw : Below w.heap.size w (w.alloc (.cells #[.slice a sizes.length cap] 22)) := (Below.refl _ _).alloc (Nat.le_refl _) _
  have hx1 := hx.below bw
  have hb : (w.alloc (.cells #[.slice a sizes.length cap] 22)).heap[w.heap.size]? = some (.cells #[.slice a sizes.length cap] 22 (0, 0)) := heap_alloc_new w _
  obtain ⟨wa, hwa⟩ : ∃ wa, wa = w.alloc (.cells #[.slice a sizes.length cap] 22) := ⟨_, rfl⟩
  have hwsz : wa.heap.size = w.heap.size + 1 := by rw [hwa]; simp
  rw [← hwa] at bw hx1 hb
  have c0 : wa.cell? ⟨w.heap.size, 0, none⟩ = some (.slice a sizes.length cap) := cell_of_one hb
  have hmk := fun w => run_make_row' (P := Tryd.prog) 22 3 (.int .i64 0) 8 Tryd.underlying22 (by kernel_rfl) rfl .i64 .i64 sizes.length (by omega) (by omega) w
  go_enter Tryd.func38, Tryd.ntmps38
  go_wp2_with fail
  rw [← hwa]
  refine (check_yes sizes room a cap _ hx1 (by omega) Hc.out).mono ?_
  rintro e w' ⟨rfl, rfl⟩
  have Hwa := Lib.hid hwa
  clear hwa hb
  have Hsz := Lib.hid hwsz
  clear hwsz
  go_wp2
  go_loopw [20] (fun i wr => ∃ k : Nat, i = .int .i64 k ∧ k ≤ sizes.length ∧ Row wr wa.heap.size 3 (nums k ++ List.replicate (sizes.length - k) 0) ∧ Below wa.heap.size wa wr)
    (fun i _ => sizes.length - (intOf i).toNat)
  case atStart =>
    refine ⟨0, rfl, Nat.zero_le _, ?_, (Below.refl _ _).alloc (Nat.le_refl _) _⟩
    have := Row.made wa 3 sizes.length
    simpa [nums] using this
  case round =>
    obtain ⟨k, rfl, hk, hrow, hbel⟩ := hrel
    rcases Nat.lt_or_ge k sizes.length with hlt | hge
    · obtain ⟨r, hr⟩ : ∃ r, sizes.length - k = r + 1 := ⟨sizes.length - k - 1, by omega⟩
      rw [hr] at hrow
      have hcell := hrow.cell k (by rw [List.length_append, nums_length]; simp)
      obtain ⟨ov, hcell⟩ : ∃ ov, wr.cell? ⟨wa.heap.size, k, none⟩ = some ov := ⟨_, hcell⟩
      have hfr := hrow.free k
      have Hr := Lib.hid hr
      clear hr
      go_wp2
      go_roundw
      case rel =>
        refine ⟨k + 1, by go_num, by omega, ?_, hbel.setCell (Nat.le_refl _) _⟩
        rw [show sizes.length - (k + 1) = r by have := Hr.out; omega, ← set_nums]
        exact hrow.set k _
      case measure => simp only [intOf]; omega
    · have hkn : k = sizes.length := by omega
      have h3 : ((sizes.length : Nat) : Int) ≤ (k : Int) := by omega
      have hrow' : Row wr wa.heap.size 3 (asInts (List.range sizes.length)) := by rw [hkn] at hrow; simpa [nums, asInts] using hrow
      clear hkn hrow
      have hclo : ∀ w', Below wa.heap.size wr w' → CloAt sizes a cap w.heap.size w' := fun w' hb' => by
        have hb2 : Below wa.heap.size wa w' := hbel.trans hb'
        have hsz := Hsz.out
        refine ⟨hx.below (bw.trans (hb2.mono (by omega))), ?_⟩
        rw [hb2.cell (p := ⟨w.heap.size, 0, none⟩) (by show w.heap.size < wa.heap.size; omega)]; exact c0
      have S := sortStable_any sizes a cap w.heap.size wa.heap.size wr hs hclo hrow'
      have Hclo := Lib.hid hclo
      clear hclo
      have cr : wr.cell? ⟨w.heap.size, 0, none⟩ = some (.slice a sizes.length cap) := (Hclo.out wr (Below.refl _ _)).2
      go_wp2_with fail
      refine S.mono ?_
      rintro e w2 ⟨ord, rfl, hF, h4, h5⟩
      have c2 : w2.cell? ⟨w.heap.size, 0, none⟩ = some (.slice a sizes.length cap) := (Hclo.out w2 h5).2
      have hx2 := (Hclo.out w2 h5).1
      have b2 : Below w.heap.size w w2 := bw.trans ((hbel.trans h5).mono (by have := Hsz.out; omega))
      have F := fill_any sizes a cap room ord (some ⟨wa.heap.size, 0, none⟩) sizes.length w2 hx2 hf h4.ints (by rw [hF.length]; exact hs) hF.lt
      rw [hF.length] at F
      have HF := Lib.hid hF
      clear hF S
      go_wp2_with fail
      refine F.mono ?_
      clear F
      rintro e w3 ⟨g2, rfl, h6, h7, h8⟩
      go_wp2
      go_ret2
      exact ⟨ord, HF.out, g2, rfl, by have := b2.size; omega, h7, b2.trans (h8.mono b2.size)⟩
theorem fillL_length (sizes : List Int) (room : Int) (ord : List Nat) : (fillL sizes room ord).length = sizes.length := by unfold fillL; rw [fillS_length]; simp

end Go.Proofs.YtomgcfjdmoefgaaDoor
