/- WALKS: cmp.Compare, the closures of slots.by and slots.Rooms, slots.by. -/
import Derived.Test.YtdalffmmkhcdaaaSpCheck
import Derived.Test.YtdalffmmkhcdaaaIxSort
set_option linter.unusedVariables false
set_option linter.unusedSimpArgs false
namespace Go.Proofs.Ytdalffmmkhcdaaa
open Go Go.RowKit SimPlain HeapPlain SymPlain

theorem isNaN_any (x : Int) (w : World) : Calls Try.prog 29 #[.int .i64 x] w fun e w' => e = .returned (.bool false) ∧ w = w' := by
  have h : (x != x) = false := by simp
  go_enter Try.func29, Try.ntmps29
  go_wp2
  go_ret
  exact ⟨rfl, rfl⟩
theorem compare_any (x y : Int) (w : World) : Calls Try.prog 26 #[.int .i64 x, .int .i64 y] w fun e w' => e = .returned (.int .i64 (cmpZ x y)) ∧ w = w' := by
  rcases Int.lt_trichotomy x y with h | h | h
  · rw [cmpZ_less h]
    go_enter Try.func26, Try.ntmps26
    go_wp2_with fail
    refine (isNaN_any x w).mono ?_
    rintro e w' ⟨rfl, rfl⟩
    go_wp2_with fail
    refine (isNaN_any y w).mono ?_
    rintro e w' ⟨rfl, rfl⟩
    go_wp2
    go_ret
    exact ⟨rfl, rfl⟩
  · subst h
    rw [show cmpZ x x = 0 by simp [cmpZ]]
    have h1 : decide (x < x) = false := by simp
    go_enter Try.func26, Try.ntmps26
    go_wp2_with fail
    refine (isNaN_any x w).mono ?_
    rintro e w' ⟨rfl, rfl⟩
    go_wp2_with fail
    refine (isNaN_any x w).mono ?_
    rintro e w' ⟨rfl, rfl⟩
    go_wp2
    go_ret
    exact ⟨rfl, rfl⟩
  · rw [show cmpZ x y = 1 by unfold cmpZ; rw [if_neg (by omega), if_pos h]]
    go_enter Try.func26, Try.ntmps26
    go_wp2_with fail
    refine (isNaN_any x w).mono ?_
    rintro e w' ⟨rfl, rfl⟩
    go_wp2_with fail
    refine (isNaN_any y w).mono ?_
    rintro e w' ⟨rfl, rfl⟩
    go_wp2
    go_ret
    exact ⟨rfl, rfl⟩
theorem from_any (f t : Int) (w : World) : Calls Try.prog 14 #[.agg #[.int .i64 f, .int .i64 t]] w fun e w' => e = .returned (.int .i64 f) ∧ Only w w' (fun _ => False) := by
  go_enter Try.func14, Try.ntmps14
  go_wp2
  go_ret
  exact ⟨rfl, Only.alloc _ _ _⟩
/-- a span, its place beside it -/
def tagAt (l : List Ev) (i : Nat) : Ev := ⟨(l.getD i e0).t, (l.getD i e0).id, i⟩
def tag (l : List Ev) : List Ev := (List.range l.length).map (tagAt l)
def fvW : Value := .func (.func 14) #[] #[]
set_option maxRecDepth 100000 in
set_option maxHeartbeats 4000000 in
theorem by1_any (l : List Ev) (b off : Nat) (cap p1 p2 i j : Nat) (w : World) (hi : i < l.length) (hj : j < l.length) (hl : l.length ≤ 24) (hb : b < w.heap.size)
    (hc : ∀ i, i < l.length → w.cell? ⟨b, off + i * 2, none⟩ = some (.int .i64 (l.getD i e0).t) ∧ w.cell? ⟨b, off + i * 2 + 1, none⟩ = some (.int .i64 (l.getD i e0).id))
    (h1 : w.heap[p1]? = some (.cells #[fvW] 50 (0, 0))) (h2 : w.heap[p2]? = some (.cells #[.slice (some ⟨b, off, none⟩) l.length cap] 22 (0, 0))) :
    Calls Try.prog 25 #[.int .i64 i, .int .i64 j, .pointer (some ⟨p1, 0, none⟩), .pointer (some ⟨p2, 0, none⟩)] w
      fun e w' => e = .returned (.int .i64 (cmpZ (l.getD i e0).t (l.getD j e0).t)) ∧ Only w w' (fun _ => False) := by
  obtain ⟨x0, x1⟩ := hc i hi
  obtain ⟨y0, y1⟩ := hc j hj
  generalize (l.getD i e0).t = xt at *
  generalize (l.getD i e0).id = xi at *
  generalize (l.getD j e0).t = yt at *
  generalize (l.getD j e0).id = yi at *
  have l1 := lt_of_block h1
  have l2 := lt_of_block h2
  have u1 : w.cell? ⟨p1, 0, none⟩ = some fvW := by simp [World.cell?, h1]
  have u2 : w.cell? ⟨p2, 0, none⟩ = some (.slice (some ⟨b, off, none⟩) l.length cap) := by simp [World.cell?, h2]
  have HFr : Hid (∀ W, Only w W (fun _ => False) → ∀ f t : Int, Calls Try.prog 14 #[.agg #[.int .i64 f, .int .i64 t]] W fun e w' => e = .returned (.int .i64 f) ∧ Only w w' (fun _ => False) ∧
      w'.cell? ⟨p1, 0, none⟩ = some fvW ∧ w'.cell? ⟨p2, 0, none⟩ = some (.slice (some ⟨b, off, none⟩) l.length cap) ∧
      w'.cell? ⟨b, off + i * 2, none⟩ = some (.int .i64 xt) ∧ w'.cell? ⟨b, off + i * 2 + 1, none⟩ = some (.int .i64 xi) ∧ w'.cell? ⟨b, off + j * 2, none⟩ = some (.int .i64 yt) ∧ w'.cell? ⟨b, off + j * 2 + 1, none⟩ = some (.int .i64 yi)) := Lib.hid fun W o f t => by
    refine (from_any f t W).mono ?_
    rintro e w' ⟨rfl, o2⟩
    have o3 := o.trans o2 (fun _ _ c => c)
    have key : ∀ (A : Addr) (v : Value), A.block < w.heap.size → w.cell? A = some v → w'.cell? A = some v := fun A v hA hv => (o3.cell hA (fun c => c)).trans hv
    exact ⟨rfl, o3, key _ _ l1 u1, key _ _ l2 u2, key _ _ hb x0, key _ _ hb x1, key _ _ hb y0, key _ _ hb y1⟩
  have hiI : (i : Int) < (l.length : Int) := by omega
  have hjI : (j : Int) < (l.length : Int) := by omega
  unfold fvW at *
  clear hc h1 h2 l1 l2
  go_enter Try.func25, Try.ntmps25
  go_upto_region 1 with fail
  have HO0 := Lib.hid ((Only.refl w (fun _ => False)).drewN 1)
  go_region_held3 (fun w' => w'.cell? ⟨p1, 0, none⟩ = some (.func (.func 14) #[] #[]) ∧ w'.cell? ⟨p2, 0, none⟩ = some (.slice (some ⟨b, off, none⟩) l.length cap) ∧ w'.cell? ⟨b, off + i * 2, none⟩ = some (.int .i64 xt) ∧ w'.cell? ⟨b, off + i * 2 + 1, none⟩ = some (.int .i64 xi) ∧ w'.cell? ⟨b, off + j * 2, none⟩ = some (.int .i64 yt) ∧ w'.cell? ⟨b, off + j * 2 + 1, none⟩ = some (.int .i64 yi))
    (first | exact ⟨k1, k2, k3, k4, k5, k6⟩ | exact ⟨u1, u2, x0, x1, y0, y1⟩)
    (first
    | (go_at_call_of 14 (Value.agg #[.int .i64 xt, .int .i64 xi]); refine (HFr.out _ HO0.out xt xi).mono ?_; rintro e w4 ⟨rfl, o4, k1, k2, k3, k4, k5, k6⟩; have HO := Lib.hid o4; clear o4)
    | (go_at_call_of 14 (Value.agg #[.int .i64 yt, .int .i64 yi]); refine (HFr.out _ HO.out yt yi).mono ?_; rintro e w5 ⟨rfl, o4, k1, k2, k3, k4, k5, k6⟩; have HO2 := Lib.hid o4; clear o4)
    | (go_at_call 26; refine (compare_any _ _ _).mono ?_; rintro e w6 ⟨rfl, rfl⟩))
  all_goals
    go_wp2
    go_ret
    exact ⟨rfl, HO2.out⟩
end Go.Proofs.Ytdalffmmkhcdaaa
