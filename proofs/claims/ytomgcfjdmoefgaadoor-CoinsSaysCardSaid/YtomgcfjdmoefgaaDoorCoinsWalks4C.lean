/- WALKS: ricksteadsame.Sum, ricksteadlaw5.worth, coins.Always, ricksteadlaw5.coinsFact: what each computes. -/
import Derived.Test.YtomgcfjdmoefgaaDoorCoinsWalks3C
namespace Go.Proofs.YtomgcfjdmoefgaaDoor
open Go Go.RowKit CoinsPlain

theorem sum_le_worth (c m : List Int) (hc : ∀ n ∈ c, 1 ≤ n) (hm : ∀ k ∈ m, 0 ≤ k) (hl : m.length = c.length) : m.sum ≤ worthL c m := by
  induction c generalizing m with
  | nil =>
    have : m = [] := List.eq_nil_of_length_eq_zero (by simpa using hl)
    subst this; simp [worthL]
  | cons n c ih =>
    cases m with
    | nil => simp at hl
    | cons k m =>
      have a := ih m (fun x hx => hc x (List.mem_cons_of_mem _ hx)) (fun x hx => hm x (List.mem_cons_of_mem _ hx)) (by simpa using hl)
      have hk := hm k (by simp)
      have hn := hc n (by simp)
      have b : k * 1 ≤ k * n := Int.mul_le_mul_of_nonneg_left hn hk
      simp only [List.sum_cons, worthL]
      omega
/-! ### Always -/
def AlwOk (c : List Int) (is : Bool) (least : Nat) : Prop :=
  (is = true ∧ least = 0 ∧ ∀ s : Nat, (s : Int) ≤ 2 * c.getD (c.length - 1) 0 → G c s = F c s) ∨
  (is = false ∧ (least : Int) ≤ 2 * c.getD (c.length - 1) 0 ∧ F c least < G c least ∧ ∀ y : Nat, y < least → G c y = F c y)
def AlwPost (c : List Int) (w : World) (e : Ending) (w' : World) : Prop :=
  ∃ is least, AlwOk c is least ∧ e = .returned (.tuple #[.bool is, .int .i64 (least : Nat), .nilIface]) ∧ Below w.heap.size w w'

theorem Always_no (c : List Int) (a : Option Addr) (cap : Nat) (w : World) (hx : Ints w a c) (hl : c.length ≤ 9223372036854775807) (h : chk c ≠ 0) :
    Calls Tryd.prog 21 #[.slice a c.length cap] w fun e w' => e = .returned (.tuple #[.bool false, .int .i64 0, .iface 81 (.int .i64 (chk c))]) ∧ w = w' := by
  have H := Lib.hid h
  clear h
  go_enter Tryd.func21, Tryd.ntmps21
  go_wp2_with (go_at_call 19; refine (check_no c a cap _ hx hl H.out).mono ?_; rintro e w' ⟨rfl, rfl⟩)
  go_ret3
  exact ⟨rfl, rfl⟩

theorem G_le (c : List Int) (h : Up c) (s : Nat) : G c s ≤ s := by
  have hw := grd_worth c h.one c.length h.ne (Nat.le_refl _) (s : Int)
  rw [List.take_length] at hw
  have := sum_le_worth c (grd c c.length s) h.ok.pos (grd_nonneg c h.ok.pos c.length (Nat.le_refl _) s (by omega)) (grd_length _ _ _)
  rw [hw] at this; exact this

theorem Always_yes (c : List Int) (a : Option Addr) (cap : Nat) (w : World) (hx : Ints w a c) (h : chk c = 0) :
    Calls Tryd.prog 21 #[.slice a c.length cap] w fun e w' => AlwPost c w e w' := by
  have hf := chk_fine h
  have H := Lib.hid h
  clear h
  have hl := hf.short
  have hn := hf.up.ne
  obtain ⟨b, off, rfl, hcell⟩ := hx.open hn
  have hct := hcell (c.length - 1) (by omega)
  have t1 := hf.up.ge1 (c.length - 1) (by omega)
  have t2 := hf.small (c.length - 1) (by omega)
  clear hcell
  obtain ⟨t, ht⟩ := Int.eq_ofNat_of_zero_le (show 0 ≤ c.getD (c.length - 1) 0 by omega)
  rw [ht] at hct t1 t2
  have Ht := Lib.hid ht
  clear ht
  have en : (2 : Int) * (t : Int) = ((2 * t : Nat) : Int) := by omega
  go_enter Tryd.func21, Tryd.ntmps21
  go_wp2_with fail
  refine (check_yes c _ cap _ hx (by omega) H.out).mono ?_
  rintro e w' ⟨rfl, rfl⟩
  clear en
  go_wp2_with fail
  have fw := fewest_any c (some ⟨b, off, none⟩) cap (2 * t) w hx hf.up.ok hl (by omega)
  rw [show (((2 * t : Nat) : Int)) = 2 * (t : Int) by omega] at fw
  refine fw.mono ?_
  clear fw
  rintro e w1 ⟨g, rfl, hg, hrow, hbel⟩
  rw [fewL_length]
  have hgl := hrow.lt
  go_wp2_with fail
  go_loopw [25] (fun i wr => ∃ k : Nat, k ≤ 2 * t + 1 ∧ i = .int .i64 k ∧ (∀ y : Nat, y < k → G c y = F c y) ∧ Row wr g 3 (fewL c (2 * t)) ∧ Below w.heap.size w wr ∧ g < wr.heap.size)
    (fun i _ => 2 * t + 1 - (intOf i).toNat)
  case atStart => exact ⟨0, Nat.zero_le _, rfl, fun y hy => by omega, hrow, hbel, hgl⟩
  case round =>
    obtain ⟨k, hk, rfl, hall, hrowr, hbelr, hglr⟩ := hrel
    have Hall := Lib.hid hall
    clear hall
    rcases Nat.lt_or_ge k (2 * t + 1) with hlt | hge
    · have hfk := hrowr.cell k (by rw [fewL_length]; exact hlt)
      rw [fewL_getD c (2 * t) k (by omega)] at hfk
      have hGF := G_ge_F hf.up k
      have hG := G_le c hf.up k
      have hF0 := F_nonneg hf.up.ok k
      have hxr := hx.below hbelr
      generalize hv : F c k = v at hfk hGF hF0
      have Hv := Lib.hid hv
      clear hv
      have t3 : (k : Int) < 2 * (t : Int) + 1 := by omega
      go_wp2_with fail
      refine (greedy_any c (some ⟨b, off, none⟩) cap k _ hxr (fun i hi => hf.up.ge1 i hi) hl (by omega) (by omega)).mono ?_
      rintro e w2 ⟨g2, rfl, hg2, hrow2, hbel2⟩
      go_wp2_with fail
      refine (many_any (grd c c.length k) (some ⟨g2, 0, none⟩) _ _ hrow2.ints (small_of_nonneg _ (grd_nonneg c hf.up.ok.pos _ (Nat.le_refl _) _ (by omega)) (by show G c k ≤ _; omega)) (by rw [grd_length]; omega)).mono ?_
      rintro e w3 ⟨rfl, rfl⟩
      have hrow3 := hrowr.below hbel2 hglr
      have hbel3 := hbelr.trans (hbel2.mono hbelr.size)
      have hgl3 := hrow3.lt
      generalize hGk : (grd c c.length k).sum = Gk
      have hGk' : G c k = Gk := hGk
      rw [hGk'] at hGF hG
      have HGk := Lib.hid hGk'
      clear hGk hGk'
      rcases Int.lt_or_le v Gk with hvG | hvG
      · go_wp2
        go_ret3
        refine ⟨false, k, .inr ⟨rfl, by rw [Ht.out]; omega, by rw [HGk.out, Hv.out]; exact hvG, Hall.out⟩, rfl, hbel3⟩
      · go_wp2
        go_roundw
        case rel =>
          refine ⟨k + 1, by omega, by go_num, fun y hy => ?_, hrow3, hbel3, hgl3⟩
          rcases Nat.lt_or_ge y k with hyk | hyk
          · exact Hall.out y hyk
          · have : y = k := by omega
            subst this
            rw [HGk.out, Hv.out]; omega
        case measure => simp only [intOf]; omega
    · have hkt : k = 2 * t + 1 := by omega
      have Hkt := Lib.hid hkt
      clear hkt
      have t3 : 2 * (t : Int) + 1 ≤ (k : Int) := by omega
      go_wp2
      go_ret3
      refine ⟨true, 0, .inl ⟨rfl, rfl, fun s hs => Hall.out s (by rw [Ht.out] at hs; omega)⟩, rfl, hbelr⟩
end Go.Proofs.YtomgcfjdmoefgaaDoor
