/- WALKS: Lru, Fifo, Far: what each tells. -/
import Derived.Test.YtmlnegcffeghcaaDoorPagePlayFar
import Derived.Test.YtmlnegcffeghcaaDoorPagePlayFifo
namespace Go.Proofs.YtmlnegcffeghcaaDoor
open Go Go.RowKit PagePlain Go.Maps

theorem chkP_no {frames : Int} {asks : List Int} (h : ¬ FineP frames asks) : chkP frames asks ≠ 0 := fun c => h (chkP_fine c)
theorem play_no (frames : Int) (asks : List Int) (a : Option Addr) (cap : Nat) (v : Value) (w : World) (hx : Ints w a asks) (hl : asks.length ≤ 9223372036854775807) (hno : ¬ FineP frames asks) :
    Calls Tryd.prog 19 #[.int .i64 frames, .slice a asks.length cap, v] w fun e w' => e = .returned (.tuple #[.slice none 0 0, .iface 37 (.int .i64 (chkP frames asks))]) ∧ w = w' := by
  have hc := checkP_any asks frames a cap w hx hl
  have hne := chkP_no hno
  generalize chkP frames asks = c at *
  rw [errV_bad hne] at hc
  have HC := Lib.hid hc
  clear hc hno
  go_enter Tryd.func19, Tryd.ntmps19
  go_wp2_with fail
  refine HC.out.mono ?_
  rintro e w1 ⟨rfl, rfl⟩
  go_wp2
  go_ret2
  exact ⟨rfl, rfl⟩
theorem only_new {w w' : World} {asks : List Int} {a : Option Addr} (o : Obj) (h : Only (w.alloc o) w' (fun k => k = w.heap.size)) : Below w.heap.size w w' :=
  ((Only.alloc w o (fun k => k = w.heap.size)).trans h (fun _ _ h => h)).below (Nat.le_refl _) (fun k e => by have : k = w.heap.size := e; omega)
theorem alloc_size (w : World) (o : Obj) : (w.alloc o).heap.size = w.heap.size + 1 := by simp
set_option maxHeartbeats 1000000 in
theorem Lru_any (frames : Int) (asks : List Int) (a : Option Addr) (cap : Nat) (w : World) (hx : Ints w a asks) (hl : asks.length ≤ 9223372036854775807) :
    Calls Tryd.prog 10 #[.int .i64 frames, .slice a asks.length cap] w fun e w' => PageRes KLru frames asks w e w' := by
  have hmm := @run_makeMap Tryd.prog
  have b0 : Below w.heap.size w (w.alloc (.map #[] 0)) := (Below.refl _ _).alloc (Nat.le_refl _) _
  have hs : Since (w.alloc (.map #[] 0)) w.heap.size 0 (fun _ => 0) := ⟨_, SinceIs.start, World.ownsMap_made _ _ _ _⟩
  by_cases hF : FineP frames asks
  · obtain ⟨f, rfl⟩ := Int.eq_ofNat_of_zero_le (show 0 ≤ frames by have := hF.r1; omega)
    have hP := play_lru f asks w.heap.size a cap (w.alloc (.map #[] 0)) (fun w' h => hx.below (only_new (asks := asks) (a := a) _ h)) hF hs
    rw [alloc_size] at hP
    have HP := Lib.hid hP
    have HF := Lib.hid hF
    clear hP hF hs b0
    go_enter Tryd.func10, Tryd.ntmps10
    go_wp2_with fail
    refine HP.out.mono ?_
    rintro e w1 ⟨rfl, hb, ho⟩
    have HB := Lib.hid hb
    have HO := Lib.hid (only_new (asks := asks) (a := a) _ ho)
    clear hb ho
    go_wp2
    go_ret2
    exact ⟨.inl ⟨HF.out, _, rfl, HB.out, by omega⟩, HO.out⟩
  · have hP := play_no frames asks a cap (.iface 46 (.agg #[.map (some w.heap.size)])) (w.alloc (.map #[] 0)) (hx.below b0) hl hF
    have hne := chkP_no hF
    have Hne := Lib.hid hne
    have HP := Lib.hid hP
    have HF := Lib.hid hF
    have HB := Lib.hid b0
    clear hP hF hs b0 hne
    generalize hc : chkP frames asks = c at *
    have HC := Lib.hid hc
    clear hc
    go_enter Tryd.func10, Tryd.ntmps10
    go_wp2_with fail
    refine HP.out.mono ?_
    rintro e w1 ⟨rfl, rfl⟩
    go_wp2
    go_ret2
    exact ⟨.inr ⟨HF.out, by rw [HC.out]; rfl, by rw [HC.out]; exact Hne.out⟩, HB.out⟩
set_option maxHeartbeats 1000000 in
theorem Fifo_any (frames : Int) (asks : List Int) (a : Option Addr) (cap : Nat) (w : World) (hx : Ints w a asks) (hl : asks.length ≤ 9223372036854775807) :
    Calls Tryd.prog 9 #[.int .i64 frames, .slice a asks.length cap] w fun e w' => PageRes KFifo frames asks w e w' := by
  have hmm := @run_makeMap Tryd.prog
  have b0 : Below w.heap.size w (w.alloc (.map #[] 0)) := (Below.refl _ _).alloc (Nat.le_refl _) _
  have hs : Since (w.alloc (.map #[] 0)) w.heap.size 0 (fun _ => 0) := ⟨_, SinceIs.start, World.ownsMap_made _ _ _ _⟩
  by_cases hF : FineP frames asks
  · obtain ⟨f, rfl⟩ := Int.eq_ofNat_of_zero_le (show 0 ≤ frames by have := hF.r1; omega)
    have hP := play_fifo f asks w.heap.size a cap (w.alloc (.map #[] 0)) (fun w' h => hx.below (only_new (asks := asks) (a := a) _ h)) hF hs
    rw [alloc_size] at hP
    have HP := Lib.hid hP
    have HF := Lib.hid hF
    clear hP hF hs b0
    go_enter Tryd.func9, Tryd.ntmps9
    go_wp2_with fail
    refine HP.out.mono ?_
    rintro e w1 ⟨rfl, hb, ho⟩
    have HB := Lib.hid hb
    have HO := Lib.hid (only_new (asks := asks) (a := a) _ ho)
    clear hb ho
    go_wp2
    go_ret2
    exact ⟨.inl ⟨HF.out, _, rfl, HB.out, by omega⟩, HO.out⟩
  · have hP := play_no frames asks a cap (.iface 44 (.agg #[.map (some w.heap.size)])) (w.alloc (.map #[] 0)) (hx.below b0) hl hF
    have hne := chkP_no hF
    have Hne := Lib.hid hne
    have HP := Lib.hid hP
    have HF := Lib.hid hF
    have HB := Lib.hid b0
    clear hP hF hs b0 hne
    generalize hc : chkP frames asks = c at *
    have HC := Lib.hid hc
    clear hc
    go_enter Tryd.func9, Tryd.ntmps9
    go_wp2_with fail
    refine HP.out.mono ?_
    rintro e w1 ⟨rfl, rfl⟩
    go_wp2
    go_ret2
    exact ⟨.inr ⟨HF.out, by rw [HC.out]; rfl, by rw [HC.out]; exact Hne.out⟩, HB.out⟩
set_option maxHeartbeats 1000000 in
theorem Far_any (frames : Int) (asks : List Int) (a : Option Addr) (cap : Nat) (w : World) (hx : Ints w a asks) (hl : asks.length ≤ 9223372036854775807) (hcap : asks.length ≤ cap) (hcm : cap ≤ 9223372036854775807) :
    Calls Tryd.prog 11 #[.int .i64 frames, .slice a asks.length cap] w fun e w' => PageRes (KFar asks) frames asks w e w' := by
  have b0 : Below w.heap.size w w := Below.refl _ _
  by_cases hF : FineP frames asks
  · obtain ⟨f, rfl⟩ := Int.eq_ofNat_of_zero_le (show 0 ≤ frames by have := hF.r1; omega)
    have hP := play_far f asks a cap w (fun w' h => hx.below (h.below (Nat.le_refl _) (fun k e => e.elim))) hF hcap hcm
    have HP := Lib.hid hP
    have HF := Lib.hid hF
    clear hP hF b0
    go_enter Tryd.func11, Tryd.ntmps11
    go_wp2_with fail
    refine HP.out.mono ?_
    rintro e w1 ⟨rfl, hb, ho⟩
    have HB := Lib.hid hb
    have HO := Lib.hid (ho.below (Nat.le_refl _) (fun k e => e.elim))
    clear hb ho
    go_wp2
    go_ret2
    exact ⟨.inl ⟨HF.out, _, rfl, HB.out, by omega⟩, HO.out⟩
  · have hP := play_no frames asks a cap (.iface 48 (.agg #[.slice a asks.length cap])) w (hx.below b0) hl hF
    have hne := chkP_no hF
    have Hne := Lib.hid hne
    have HP := Lib.hid hP
    have HF := Lib.hid hF
    have HB := Lib.hid b0
    clear hP hF b0 hne
    generalize hc : chkP frames asks = c at *
    have HC := Lib.hid hc
    clear hc
    go_enter Tryd.func11, Tryd.ntmps11
    go_wp2_with fail
    refine HP.out.mono ?_
    rintro e w1 ⟨rfl, rfl⟩
    go_wp2
    go_ret2
    exact ⟨.inr ⟨HF.out, by rw [HC.out]; rfl, by rw [HC.out]; exact Hne.out⟩, HB.out⟩
end Go.Proofs.YtmlnegcffeghcaaDoor
