/- WALK: strings.Lines and its iterator: it gives the lines of a text, one after the other. -/
import Derived.Test.YtalnepcbaegaeaaDoorSeqL
import Derived.Test.YtalnepcbaegaeaaDoorBkShelf2
import Derived.Test.YtalnepcbaegaeaaDoorLinesPlain
import Derived.WalkKit
import Derived.OwnWalkIn
import Derived.TacticsInMore
import Derived.LoopNIn
import Derived.LoopIn
import Derived.BigRegionIn
set_option linter.unusedVariables false
set_option linter.unusedSimpArgs false
namespace Go.Proofs.YtalnepcbaegaeaaDoor
open Go Go.RowKit LinesPlain
attribute [local go_sem] Oper.semAt_some

def boxS (s : List UInt8) : Obj := .cells #[.string ⟨s.toArray⟩] 9 (0, 0)
theorem Lines_any (s : ByteArray) (w : World) : Calls Tryd.prog 37 #[.string s] w fun e w' => e = .returned (.func (.func 49) #[] #[.pointer (some ⟨w.heap.size, 0, none⟩)]) ∧ w' = w.alloc (.cells #[.string s] 9) := by
  go_enter Tryd.func37, Tryd.ntmps37
  go_wp2
  go_ret
  exact ⟨rfl, rfl⟩
def leftL (bs : Nat) (w : World) : Nat := match w.cell? ⟨bs, 0, none⟩ with
  | some (.string s) => s.size
  | _ => 0
set_option maxRecDepth 100000 in
set_option maxHeartbeats 2000000 in
theorem lines_seq (n : Nat) (hn : 1 ≤ n) (bs : Nat) (s : List UInt8) (w : World) (h : w.heap[bs]? = some (boxS s)) (hs : s.length ≤ 9223372036854775806) :
    SeqL Fence.wide n Tryd.prog 49 #[.pointer (some ⟨bs, 0, none⟩)] bs (fun x : List UInt8 => #[.string ⟨x.toArray⟩]) (linesOf s) w := fun l J Jx W hW hJ hJx hY h0 => by
  refine callsIn_of_wp Tryd.func49 rfl trivial ?_ rfl
  simp only [Tryd.ntmps49, List.size_toArray, List.length_cons, List.length_nil, Nat.reduceAdd, Nat.reduceSub, Array.replicate_succ, Array.replicate_zero, List.push_toArray, List.append_toArray, List.nil_append, List.cons_append]
  gi_wp2
  gi_loopw [3] (fun _ wr => ∃ (pre : List (List UInt8)) (r : List UInt8), linesOf s = pre ++ linesOf r ∧ r.length ≤ s.length ∧ wr.heap[bs]? = some (boxS r) ∧ J pre wr)
    (fun _ wr => leftL bs wr)
  case atStart =>
    exact ⟨[], s, rfl, Nat.le_refl _, hW.trans h, h0⟩
  case round =>
    obtain ⟨pre, r, hL, hr, hb, hJr⟩ := hrel
    have hc : wr.cell? ⟨bs, 0, none⟩ = some (.string ⟨r.toArray⟩) := by simp [World.cell?, hb, boxS]
    have hf : wr.frozen? ⟨bs, 0, none⟩ = false := by simp [World.frozen?, hb, boxS]
    obtain ⟨Y, hY0⟩ : ∃ Y : ByteArray, Y = ⟨r.toArray⟩ := ⟨_, rfl⟩
    have hYs : Y.size = r.length := by rw [hY0]; simp [ByteArray.size]
    have hYd : Y.data.toList = r := by rw [hY0]
    rw [← hY0] at hc
    have HM : Hid (leftL bs wr = Y.size) := Lib.hid (by simp [leftL, hc])
    have HL := Lib.hid hL
    have HY0 := Lib.hid hY0
    have HYd := Lib.hid hYd
    have Hs := Lib.hid hs
    have Hb := Lib.hid hb
    clear hL hY0 hYd hb h hW
    by_cases hr0 : r = []
    · have h0s : Y.size = 0 := by rw [hYs, hr0]; rfl
      clear hYs
      gi_wp2
      go_end0
      exact ⟨⟨_, rfl⟩, .inl (by rw [HL.out, hr0, linesOf_nil, List.append_nil]; exact hJr)⟩
    · have h0s : 0 < Y.size := by rw [hYs]; exact List.length_pos_iff.2 hr0
      have hcut := linesOf_cut r hr0
      have hI : ∀ W, Calls Tryd.prog 50 #[.string Y, .int .u8 10] W fun e w' => e = .returned (.int .i64 (Lib.indexByte r 10)) ∧ w' = W := fun W => by
        have h := si_strings_IndexByte Y 10 W
        rw [HYd.out] at h
        exact h
      have fin : ∀ (x r' : List UInt8), cutL r = (x, r') → ∃ W1, W1 = wr.setCell ⟨bs, 0, none⟩ (.string ⟨r'.toArray⟩) ∧ W1.heap[bs]? = some (boxS r') ∧ J pre W1 ∧ linesOf s = (pre ++ [x]) ++ linesOf r' ∧ pre ++ [x] <+: linesOf s ∧ r'.length ≤ s.length ∧ r'.length < r.length := fun x r' e => by
        have h1 : linesOf s = (pre ++ [x]) ++ linesOf r' := by rw [HL.out, hcut, e]; simp
        have h2 := cutL_len r hr0
        have h3 := cutL_sum r
        rw [e] at h2 h3
        refine ⟨_, rfl, ?_, hJ _ _ _ hJr (Only.setCell _ _ _ _ rfl), h1, ⟨linesOf r', h1.symm⟩, ?_, ?_⟩
        · have hb := Hb.out
          unfold boxS at hb
          exact Lib.heap_setCell_same hb _
        · simp at h2 h3; omega
        · simp at h2 h3; omega
      rcases indexByte_cut r with ⟨h1, h2⟩ | ⟨i, h1, h2, h3⟩
      · obtain ⟨W1, hW1, hb1, hJ1, hL1, hp1, hs1, hlt1⟩ := fin r [] h2
        obtain ⟨fn, tmps, assign, body, hy, hR⟩ := hY pre r W1 hJ1 hp1
        rw [← HY0.out] at hy
        rw [h1] at hI
        have HI := Lib.hid hI
        have HR := Lib.hid hR
        have HL1 := Lib.hid hL1
        have HB1 := Lib.hid hb1
        clear hI hR hL1 fin hcut h2 hb1
        subst hW1
        gi_wp2_with (refine ⟨trivial, ?_⟩; gi_at_call 50; refine (callsIn_wide.2 (HI.out _)).mono ?_; rintro e w' ⟨rfl, hw'⟩; subst hw')
        refine HR.out.mono ?_
        rintro e W' (⟨rfl, hJ', hk⟩ | ⟨rfl, hJx'⟩)
        · gi_wp2
          go_roundw
          case rel => exact ⟨pre ++ [r], [], HL1.out, Nat.zero_le _, hk.trans HB1.out, hJ'⟩
          case measure =>
            have e1 : leftL bs W' = 0 := by
              have := hk.trans HB1.out
              simp [leftL, World.cell?, this, boxS, ByteArray.size]
            rw [e1, HM.out]; exact h0s
        · gi_wp2
          refine bodyPost_ret (results_none rfl _ _ _) rfl ?_
          exact ⟨⟨_, rfl⟩, .inr ⟨pre ++ [r], hp1, hJx'⟩⟩
      · obtain ⟨W1, hW1, hb1, hJ1, hL1, hp1, hs1, hlt1⟩ := fin (r.take (i + 1)) (r.drop (i + 1)) h3
        obtain ⟨fn, tmps, assign, body, hy, hR⟩ := hY pre _ W1.drew (hJ _ _ _ hJ1 ((Only.refl W1 _).drewN 1)) hp1
        have hi2 : i + 1 ≤ Y.size := by rw [hYs]; omega
        have hiI : (0 : Int) ≤ (i : Int) := by omega
        have ex1 : (⟨(r.take (i + 1)).toArray⟩ : ByteArray) = Y.extract 0 (i + 1) := by
          apply ByteArray.ext; apply Array.toList_inj.1
          rw [Lib.extract_data, HYd.out]; simp
        have ex2 : (⟨(r.drop (i + 1)).toArray⟩ : ByteArray) = Y.extract (i + 1) Y.size := by
          apply ByteArray.ext; apply Array.toList_inj.1
          rw [Lib.extract_data, HYd.out, hYs]
          exact (List.take_of_length_le (by simp)).symm
        have hsz : Y.size ≤ 9223372036854775806 := by have := Hs.out; omega
        rw [ex1] at hy
        rw [ex2] at hW1
        rw [h1] at hI
        have HI := Lib.hid hI
        have HR := Lib.hid hR
        have HL1 := Lib.hid hL1
        have HB1 := Lib.hid hb1
        have Hlt := Lib.hid hlt1
        have Hs1 := Lib.hid hs1
        have HYs := Lib.hid hYs
        clear hI hR hL1 fin hcut h2 h3 hb1 ex1 ex2 hlt1 hs1 hYs h1
        gi_wp2_with (refine ⟨trivial, ?_⟩; gi_at_call 50; refine (callsIn_wide.2 (HI.out _)).mono ?_; rintro e w' ⟨rfl, hw'⟩; subst hw')
        have hmx : Tryd.prog.follows .mixedOrders = true := by kernel_rfl
        subst hW1
        gi_region
        gi_wp2
        refine HR.out.mono ?_
        rintro e W' (⟨rfl, hJ', hk⟩ | ⟨rfl, hJx'⟩)
        · gi_wp2
          go_roundw
          case rel => exact ⟨pre ++ [r.take (i + 1)], r.drop (i + 1), HL1.out, Hs1.out, hk.trans HB1.out, hJ'⟩
          case measure =>
            have e1 : leftL bs W' = (r.drop (i + 1)).length := by
              have := hk.trans HB1.out
              simp [leftL, World.cell?, this, boxS, ByteArray.size]
            rw [e1, HM.out, HYs.out]; exact Hlt.out
        · gi_wp2
          refine bodyPost_ret (results_none rfl _ _ _) rfl ?_
          exact ⟨⟨_, rfl⟩, .inr ⟨pre ++ [r.take (i + 1)], hp1, hJx'⟩⟩
end Go.Proofs.YtalnepcbaegaeaaDoor
