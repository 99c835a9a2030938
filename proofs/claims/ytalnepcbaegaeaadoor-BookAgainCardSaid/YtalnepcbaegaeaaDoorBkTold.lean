/- WALK: ricksteadlaw6.told: a book that was told something, as a fold. -/
import Derived.Test.YtalnepcbaegaeaaDoorBkDrain
import Derived.Test.YtalnepcbaegaeaaDoorBkStep
set_option linter.unusedVariables false
set_option linter.unusedSimpArgs false
namespace Go.Proofs.YtalnepcbaegaeaaDoor
open Go Go.RowKit SimPlain HeapPlain BookPlain

set_option maxRecDepth 100000 in
set_option maxHeartbeats 4000000 in
theorem told_any (steps : List Ev) (a0 : Option Addr) (cap0 : Nat) (w : World) (hx : EvA w a0 steps) (hl : steps.length ≤ 9223372036854775807) (htab : Tab w) :
    Calls Tryd.prog 19 #[.slice a0 steps.length cap0] w fun e w' => ∃ S F i, e = .returned (.pointer (some ⟨S, 0, none⟩)) ∧ i ≤ 140 ∧ (i = steps.length ∨ i = 140) ∧ BookS w' w.heap.size S F (toldB (steps.take i)) i ∧ Below w.heap.size w w' := by
  have HX := Lib.hid hx
  have HT := Lib.hid htab
  have h2 := htab.lt
  obtain ⟨N, hN⟩ : ∃ N, N = steps.length := ⟨_, rfl⟩
  have HN := Lib.hid hN
  rw [← hN] at hl ⊢
  clear hx htab hN
  go_enter Tryd.func19, Tryd.ntmps19
  go_wp2_with fail
  refine (BNew_any w).mono ?_
  rintro e w1 ⟨S, rfl, hq, hb⟩
  have H0 : Hid (BookS w1 w.heap.size S (fun k => w.heap.size ≤ k ∧ k < w1.heap.size) (toldB (steps.take 0)) 0) := Lib.hid ⟨hq, by show (0 : Nat) ≤ 60; omega, by show (0 : Int) ≤ 0; omega, by show (0 : Int) ≤ 0; omega, by show (0 : Nat) ≤ _; omega⟩
  have HB0 := Lib.hid hb
  clear hq hb
  go_wp2
  go_loopw [4] (fun iv wr => ∃ (i : Nat) (F : Nat → Prop), iv = .int .i64 i ∧ i ≤ 140 ∧ i ≤ N ∧ BookS wr w.heap.size S F (toldB (steps.take i)) i ∧ Below w.heap.size w wr) (fun iv _ => 140 - (intOf iv).toNat)
  case atStart => exact ⟨0, _, rfl, by omega, by omega, H0.out, HB0.out⟩
  case round =>
    obtain ⟨i, F, rfl, hi, hiN, hS, hb⟩ := hrel
    have HS := Lib.hid hS
    have HB := Lib.hid hb
    have hsz := hb.size
    clear hS hb
    have next : ∀ (s' : St) (F' : Nat → Prop) (w' : World), BookS w' w.heap.size S (Grow F wr w') s' (i + 1) → Only wr w' F → (∃ G, BookS w' w.heap.size S G s' (i + 1)) ∧ Below w.heap.size w w' := fun s' F' w' hS o =>
      ⟨⟨_, hS⟩, ((only_of_below HB.out (fun k => w.heap.size ≤ k)).trans o (fun k _ c => (HS.out.book.fb k c).1)).below (Nat.le_refl _) (fun _ h => h)⟩
    by_cases hgo : i < N ∧ i < 140
    · obtain ⟨h1, h3⟩ := hgo
      have h3I : (i : Int) < 140 := by omega
      have h1I : (i : Int) < (N : Int) := by omega
      obtain ⟨b, off, rfl, hbl, hc⟩ := HX.out.open (by have := HN.out; omega)
      obtain ⟨c0, c1⟩ := hc i (by have := HN.out; omega)
      replace c0 := (HB.out.cell (p := ⟨b, off + i * 2, none⟩) hbl).trans c0
      replace c1 := (HB.out.cell (p := ⟨b, off + i * 2 + 1, none⟩) hbl).trans c1
      have hsn := toldB_snoc steps i (by have := HN.out; omega)
      have hbl2 : b < wr.heap.size := by omega
      have htw : Tab wr := HT.out.to HB.out
      have hpop := fun key => HS.out.pop (by omega) hsz htw key
      have hpush := fun key id h7 => HS.out.push (by omega) hsz h2 htw key id h7
      obtain ⟨key, hkey⟩ : ∃ k, k = (steps.getD i e0).t := ⟨_, rfl⟩
      obtain ⟨id, hid⟩ : ∃ k, k = (steps.getD i e0).id := ⟨_, rfl⟩
      rw [← hkey] at c0
      rw [← hid] at c1
      have hst : toldB (steps.take (i + 1)) = stepB (toldB (steps.take i)) ⟨key, id, 0⟩ := by rw [hsn, hkey, hid]; rfl
      have HSt := Lib.hid hst
      have HPop := Lib.hid hpop
      have HPush := Lib.hid hpush
      have HNx := Lib.hid next
      clear hc hsn hkey hid hst hpop hpush next htw
      by_cases h7 : id = 7
      · subst h7
        go_wp2_with fail
        refine (HPop.out key).mono ?_
        rintro e w5 ⟨v, rfl, hS5, o5⟩
        obtain ⟨⟨G, hG⟩, hb5⟩ := HNx.out _ F w5 hS5 o5
        rw [← HSt.out] at hG
        have HG := Lib.hid hG
        have HB5 := Lib.hid hb5
        clear hS5 o5 hG hb5
        go_wp2
        go_roundw
        case rel => exact ⟨i + 1, G, by go_num, by omega, by omega, HG.out, HB5.out⟩
        case measure => simp only [intOf]; omega
      · have h7B : (id == 7) = false := by rw [beq_eq_false_iff_ne]; exact h7
        have hP := HPush.out key id h7
        have HP := Lib.hid hP
        clear hP h7
        go_wp2_with fail
        refine HP.out.mono ?_
        rintro e w5 ⟨code, rfl, hS5, o5⟩
        obtain ⟨⟨G, hG⟩, hb5⟩ := HNx.out _ F w5 hS5 o5
        rw [← HSt.out] at hG
        have HG := Lib.hid hG
        have HB5 := Lib.hid hb5
        clear hS5 o5 hG hb5
        go_wp2
        go_roundw
        case rel => exact ⟨i + 1, G, by go_num, by omega, by omega, HG.out, HB5.out⟩
        case measure => simp only [intOf]; omega
    · clear next
      rcases Nat.lt_or_ge i N with h1 | h1
      · obtain rfl : i = 140 := by omega
        go_wp2
        go_ret
        exact ⟨S, F, 140, rfl, Nat.le_refl _, .inr rfl, HS.out, HB.out⟩
      · have h1d : decide ((i : Int) < (N : Int)) = false := decide_eq_false (by omega)
        have h1e : decide (i < N) = false := decide_eq_false (by omega)
        go_wp2
        go_ret
        exact ⟨S, F, i, rfl, hi, .inl (by have := HN.out; omega), HS.out, HB.out⟩
end Go.Proofs.YtalnepcbaegaeaaDoor
