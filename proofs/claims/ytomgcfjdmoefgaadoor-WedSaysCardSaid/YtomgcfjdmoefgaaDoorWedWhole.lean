/- WALK: due.Whole: is a list all of 0 .. n - 1, each once? -/
import Derived.Test.YtomgcfjdmoefgaaDoorWithin
import Derived.Deep.OwnRows
namespace Go.Proofs.YtomgcfjdmoefgaaDoor
open Go Go.RowKit

/-- all of 0 .. n - 1, each once -/
structure AllOf (n : Nat) (xs : List Int) : Prop where
  len : xs.length = n
  range : ∀ x ∈ xs, 0 ≤ x ∧ x < n
  once : xs.Nodup
theorem getD_memI {xs : List Int} {k : Nat} (h : k < xs.length) : xs.getD k 0 ∈ xs := by
  rw [List.getD_eq_getElem?_getD, List.getElem?_eq_getElem h]; exact List.getElem_mem h
theorem take_snocI {xs : List Int} {k : Nat} (h : k < xs.length) : xs.take (k + 1) = xs.take k ++ [xs.getD k 0] := by
  rw [List.take_add_one, List.getElem?_eq_getElem h, List.getD_eq_getElem?_getD, List.getElem?_eq_getElem h]; rfl
/-- what Whole tells -/
def WholeRes (n : Nat) (xs : List Int) (w : World) (e : Ending) (w' : World) : Prop :=
  ((e = .returned .nilIface ∧ AllOf n xs) ∨ ∃ k : Int, k ≠ 0 ∧ e = .returned (.iface 81 (.int .i64 k)) ∧ ¬ AllOf n xs) ∧ Below w.heap.size w w'
theorem WholeRes.bad {n : Nat} {xs : List Int} {w w' : World} (k : Int) (hk : k ≠ 0) (h : ¬ AllOf n xs) (hb : Below w.heap.size w w') : WholeRes n xs w (.returned (.iface 81 (.int .i64 k))) w' := ⟨.inr ⟨k, hk, rfl, h⟩, hb⟩

set_option maxHeartbeats 1000000 in
theorem Whole_any (n : Nat) (xs : List Int) (a : Option Addr) (cap : Nat) (w : World) (hx : Ints w a xs) (hn : n ≤ 1000) (hl : xs.length ≤ 9223372036854775807) :
    Calls Tryd.prog 65 #[.int .i64 n, .slice a xs.length cap] w fun e w' => WholeRes n xs w e w' := by
  by_cases hln : xs.length = n
  · subst hln
    have hne : ((xs.length : Int) != (xs.length : Int)) = false := by simp
    have hmk := fun w => run_make_row' (P := Tryd.prog) 106 4 (.bool false) 1 Tryd.underlying106 (by kernel_rfl) rfl .i64 .i64 xs.length (by omega) (by omega) w
    go_enter Tryd.func65, Tryd.ntmps65
    go_wp2
    go_loopw [17] (fun i wr => ∃ k : Nat, i = .int .i64 k ∧ k ≤ xs.length ∧ (∀ x ∈ xs.take k, 0 ≤ x ∧ x < xs.length) ∧ (xs.take k).Nodup ∧ wr.rowIs w.heap.size 4 xs.length (fun j => .bool (decide ((j : Int) ∈ xs.take k))) ∧ Below w.heap.size w wr)
      (fun i _ => xs.length - (intOf i).toNat)
    case atStart => exact ⟨0, rfl, Nat.zero_le _, by simp, by simp, (World.rowIs_made w (.bool false) xs.length 4).congr (fun j _ => by simp), (Below.refl _ _).alloc (Nat.le_refl _) _⟩
    case round =>
      obtain ⟨k, rfl, hk, hrg, hnd, hrow, hb⟩ := hrel
      have Hrg := Lib.hid hrg
      have Hnd := Lib.hid hnd
      have Hrow := Lib.hid hrow
      have Hb := Lib.hid hb
      clear hrg hnd
      rcases Nat.lt_or_ge k xs.length with hlt | hge
      · obtain ⟨b, off, rfl, hc⟩ := (hx.below hb).open (by omega)
        have hck := hc k hlt
        have hmem := getD_memI hlt
        have hts := take_snocI hlt
        clear hc
        generalize xs.getD k 0 = v at hck hmem hts
        have Hmem := Lib.hid hmem
        have Hts := Lib.hid hts
        clear hmem hts hrow hb
        by_cases h1 : 0 ≤ v ∧ v ≤ (xs.length : Int) - 1
        · obtain ⟨p1, p2⟩ := h1
          obtain ⟨u, rfl⟩ := Int.eq_ofNat_of_zero_le p1
          have hu : u < xs.length := by omega
          have huI : (u : Int) < (xs.length : Int) := by omega
          have c1 := Hrow.out.cell hu
          have f1 := Hrow.out.frozen u
          have hW := Lib.hid (fun w0 => within_yes (u : Int) 0 ((xs.length : Int) - 1) p1 p2 w0)
          by_cases h2 : (u : Int) ∈ xs.take k
          · rw [decide_eq_true h2] at c1
            have hbad : ¬ AllOf xs.length xs := fun h => by
              have h3 := h.once
              have e : xs = xs.take (k + 1) ++ xs.drop (k + 1) := (List.take_append_drop _ _).symm
              rw [e, Hts.out, List.append_assoc] at h3
              have h4 := (List.nodup_append.1 h3).2.2 _ h2 (u : Int) (by simp)
              exact h4 rfl
            have Hbad := Lib.hid hbad
            clear h2 hbad
            go_wp2_with fail
            refine (hW.out _).mono ?_
            rintro e w' ⟨rfl, rfl⟩
            go_wp2
            go_ret
            exact WholeRes.bad 6 (by decide) Hbad.out Hb.out
          · rw [decide_eq_false h2] at c1
            have H2 := Lib.hid h2
            clear h2
            go_wp2_with fail
            refine (hW.out _).mono ?_
            rintro e w' ⟨rfl, rfl⟩
            go_wp2
            go_roundw
            case rel =>
              refine ⟨k + 1, by go_num, by omega, fun x hxm => ?_, ?_, ?_, Hb.out.setCell (p := ⟨w.heap.size, u, none⟩) (Nat.le_refl _) _⟩
              · rw [Hts.out, List.mem_append, List.mem_singleton] at hxm
                rcases hxm with h | rfl
                · exact Hrg.out x h
                · exact ⟨by omega, huI⟩
              · rw [Hts.out, List.nodup_append]
                exact ⟨Hnd.out, by simp, fun y hy z hz e => by rw [List.mem_singleton] at hz; subst hz; subst e; exact H2.out hy⟩
              · refine (Hrow.out.set u (.bool true)).congr (fun j _ => ?_)
                rw [Hts.out]
                by_cases e : j = u
                · subst e; rw [if_pos rfl, decide_eq_true (by simp)]
                · rw [if_neg e]
                  congr 1
                  rw [decide_eq_decide, List.mem_append, List.mem_singleton]
                  exact ⟨.inl, fun h => h.resolve_right (by omega)⟩
            case measure => simp only [intOf]; omega
        · have hbad : ¬ AllOf xs.length xs := fun h => by have := h.range v Hmem.out; omega
          have hv : v < 0 ∨ (xs.length : Int) - 1 < v := by omega
          have hW := Lib.hid (fun w0 => within_no v 0 ((xs.length : Int) - 1) hv w0)
          have Hbad := Lib.hid hbad
          clear h1 hv hbad
          go_wp2_with fail
          refine (hW.out _).mono ?_
          rintro e w' ⟨rfl, rfl⟩
          go_wp2
          go_ret
          exact WholeRes.bad 1 (by decide) Hbad.out Hb.out
      · obtain rfl : xs.length = k := by omega
        have h3 : decide (xs.length < xs.length) = false := by simp
        clear hrow hb
        go_wp2
        go_ret
        have e : xs.take xs.length = xs := List.take_length
        refine ⟨.inl ⟨rfl, rfl, ?_, ?_⟩, Hb.out⟩
        · have := Hrg.out; rwa [e] at this
        · have := Hnd.out; rwa [e] at this
  · have hne : ((xs.length : Int) != (n : Int)) = true := by rw [bne_iff_ne]; omega
    have Hln := Lib.hid hln
    clear hln
    go_enter Tryd.func65, Tryd.ntmps65
    go_wp2
    go_ret
    exact WholeRes.bad 3 (by decide) (fun h => Hln.out h.len) (Below.refl _ _)
end Go.Proofs.YtomgcfjdmoefgaaDoor
