/- WALKS: share.Longest. -/
import Derived.Test.YtomgcfjdmoefgaaDoorShareWalks3
import Derived.Test.YtomgcfjdmoefgaaDoorShareSort
namespace Go.Proofs.YtomgcfjdmoefgaaDoor
open Go Go.RowKit SharePlain PackPlain ShareLaw SortPlain

theorem Longest_no (times : List Int) (mach : Int) (a : Option Addr) (cap : Nat) (w : World) (hx : Ints w a times) (hl : times.length ≤ 9223372036854775807) (h : chk times mach ≠ 0) :
    Calls Tryd.prog 52 #[.slice a times.length cap, .int .i64 mach] w fun e w' => e = .returned (.tuple #[.slice none 0 0, .iface 81 (.int .i64 (chk times mach))]) ∧ Below w.heap.size w w' := by
  have H := Lib.hid h
  clear h
  have hx1 := hx.below ((Below.refl w.heap.size w).alloc (Nat.le_refl _) (.cells #[.slice a times.length cap] 22))
  go_enter Tryd.func52, Tryd.ntmps52
  go_wp2_with (go_at_call 49; refine (check_no times mach a cap _ hx1 hl H.out).mono ?_; rintro e w' ⟨rfl, rfl⟩)
  go_ret2
  exact ⟨rfl, (Below.refl _ _).alloc (Nat.le_refl _) _⟩

/-- what Longest makes -/
def LongRes (times : List Int) (m : Nat) (w : World) (e : Ending) (w' : World) : Prop := ∃ ord, Falls times times.length ord ∧ NewIntsOk (giveL times ord m) w e w'
theorem Longest_yes (times : List Int) (m : Nat) (a : Option Addr) (cap : Nat) (w : World) (hx : Ints w a times) (hf : Fine times m) :
    Calls Tryd.prog 52 #[.slice a times.length cap, .int .i64 m] w fun e w' => LongRes times m w e w' := by
  have hs := hf.short
  have hc := fine_chk hf
  have Hc := Lib.hid hc
  clear hc
  have bw : Below w.heap.size w (w.alloc (.cells #[.slice a times.length cap] 22)) := (Below.refl _ _).alloc (Nat.le_refl _) _
  have hx1 := hx.below bw
  have hcell : Row (w.alloc (.cells #[.slice a times.length cap] 22)) w.heap.size 22 [] ∨ True := Or.inr trivial
  clear hcell
  have hb : (w.alloc (.cells #[.slice a times.length cap] 22)).heap[w.heap.size]? = some (.cells #[.slice a times.length cap] 22 (0, 0)) := heap_alloc_new w _
  obtain ⟨wa, hwa⟩ : ∃ wa, wa = w.alloc (.cells #[.slice a times.length cap] 22) := ⟨_, rfl⟩
  have hwsz : wa.heap.size = w.heap.size + 1 := by rw [hwa]; simp
  rw [← hwa] at bw hx1 hb
  have c0 : wa.cell? ⟨w.heap.size, 0, none⟩ = some (.slice a times.length cap) := cell_of_one hb
  go_enter Tryd.func52, Tryd.ntmps52
  go_wp2_with fail
  rw [← hwa]
  refine (check_yes times m a cap _ hx1 (by omega) Hc.out).mono ?_
  rintro e w' ⟨rfl, rfl⟩
  have Hwa := Lib.hid hwa
  clear hwa hb
  go_wp2_with fail
  refine (places_any times.length hs _).mono ?_
  rintro e w1 ⟨g, rfl, h1, h2, h3⟩
  rw [nums_length]
  have hclo : ∀ w', Below g w1 w' → CloAt times a cap w.heap.size w' := fun w' hb' => by
    have hb2 : Below wa.heap.size wa w' := h3.trans (hb'.mono h1)
    refine ⟨hx.below (bw.trans (hb2.mono (by omega))), ?_⟩
    rw [hb2.cell (p := ⟨w.heap.size, 0, none⟩) (by show w.heap.size < wa.heap.size; omega)]; exact c0
  have hnums : nums times.length = asInts (List.range times.length) := rfl
  rw [hnums] at h2
  have S := sortStable_any times a cap w.heap.size g w1 hs hclo h2
  have Hclo := Lib.hid hclo
  clear hnums hclo
  have c1 : w1.cell? ⟨w.heap.size, 0, none⟩ = some (.slice a times.length cap) := (Hclo.out w1 (Below.refl _ _)).2
  go_wp2_with fail
  refine S.mono ?_
  rintro e w2 ⟨ord, rfl, hF, h4, h5⟩
  have c2 : w2.cell? ⟨w.heap.size, 0, none⟩ = some (.slice a times.length cap) := (Hclo.out w2 h5).2
  have hx2 := (Hclo.out w2 h5).1
  have b2 : Below w.heap.size w w2 := bw.trans ((h3.trans (h5.mono h1)).mono (by omega))
  have F := give_any times a cap m ord (some ⟨g, 0, none⟩) times.length w2 hx2 hf h4.ints (by rw [hF.length]; exact hs) hF.lt
  rw [hF.length] at F
  have HF := Lib.hid hF
  clear hF S
  go_wp2_with fail
  refine F.mono ?_
  clear F
  rintro e w3 ⟨g2, rfl, h6, h7, h8⟩
  go_wp2
  go_ret2
  exact ⟨ord, HF.out, g2, rfl, by have := b2.size; omega, h7, b2.trans (h8.mono b2.size)⟩
theorem giveL_length (times : List Int) (ord : List Nat) (m : Nat) : (giveL times ord m).length = times.length := by unfold giveL; rw [giveS_length]; simp
end Go.Proofs.YtomgcfjdmoefgaaDoor
