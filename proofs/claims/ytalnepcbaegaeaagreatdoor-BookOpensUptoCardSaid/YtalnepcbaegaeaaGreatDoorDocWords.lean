/- WALK: the document's Words. -/
import Derived.Test.YtalnepcbaegaeaaGreatDoorBkDoc
import Derived.Test.YtalnepcbaegaeaaGreatDoorSpPlain
import Derived.OwnWalk
import Derived.Maps.AppendAt
import Derived.RangeFuncBox
import Derived.Laws.OwnMore
set_option linter.unusedVariables false
set_option linter.unusedSimpArgs false
namespace Go.Proofs.YtalnepcbaegaeaaGreatDoor
open Go Go.RowKit BookPlain SpPlain

theorem strInfo : (Tryz.prog.info? 9).map (fun i => (i.zero, i.size, i.bytes)) = some (some (.string ByteArray.empty), 1, 16) := by kernel_rfl
def strV (x : List UInt8) : Value := .string ⟨x.toArray⟩
theorem split_step (s : List UInt8) (f i : Nat) (hf : f ≤ i) (hi : i < s.length) (h : s.getD i 0 = 32) (hno : (32 : UInt8) ∉ (s.take i).drop f) : splitSp (s.drop f) = (s.take i).drop f :: splitSp (s.drop (i + 1)) := by
  have e : s.drop f = (s.take i).drop f ++ 32 :: s.drop (i + 1) := by
    conv => lhs; rw [← List.take_append_drop i s]
    rw [List.drop_append_of_le_length (by rw [List.length_take]; omega), List.drop_eq_getElem_cons hi]
    congr 2
    rw [List.getD_eq_getElem?_getD, List.getElem?_eq_getElem hi] at h
    exact h
  rw [e, splitSp_cut _ _ hno]
theorem not_more (s : List UInt8) (f i : Nat) (hf : f ≤ i) (hi : i < s.length) (h : s.getD i 0 ≠ 32) (hno : (32 : UInt8) ∉ (s.take i).drop f) : (32 : UInt8) ∉ (s.take (i + 1)).drop f := by
  have e : (s.take (i + 1)).drop f = (s.take i).drop f ++ [s.getD i 0] := by
    rw [List.take_add_one, List.getElem?_eq_getElem hi, List.drop_append_of_le_length (by rw [List.length_take]; omega), List.getD_eq_getElem?_getD, List.getElem?_eq_getElem hi]
    rfl
  rw [e]
  intro m
  rcases List.mem_append.1 m with m | m
  · exact hno m
  · rw [List.mem_singleton] at m; exact h m.symm
/-- rows of words of the call's own -/
def WOwn (w : World) (B : Nat) (v : Value) (ws : List (List UInt8)) : Prop := w.ownsRow B 9 1 v ws.length (ws.map strV)
def WRes (s : List UInt8) (w : World) (e : Ending) (w' : World) : Prop :=
  ∃ g c, e = .returned (.slice (some ⟨g, 0, none⟩) (splitSp s).length c) ∧ (∀ i, i < (splitSp s).length → w'.cell? ⟨g, i, none⟩ = some (strV ((splitSp s).getD i []))) ∧ Below w.heap.size w w'
theorem WOwn.snoc {w : World} {B : Nat} {v : Value} {ws : List (List UInt8)} {x : List UInt8} {k : Nat} {u : Value} (hu : u = strV x) (hk : k = ws.length) (h : w.ownsRow B 9 1 v (k + 1) (ws.map strV ++ [u])) : (∃ a c, v = .slice a (ws.length + 1) c) ∧ WOwn w B v (ws ++ [x]) := by
  subst hu hk
  have e : (ws ++ [x]).length = ws.length + 1 := by simp
  refine ⟨?_, ?_⟩
  · obtain ⟨g, cap, hv⟩ := ownsRow_succ h
    exact ⟨_, cap, hv⟩
  · unfold WOwn
    rw [e, List.map_append]
    exact h
theorem wgrown {w w' : World} {r : Option Nat} {B : Nat} (h : w.grownBy w' r) (hB : B ≤ w.heap.size) (hr : ∀ k, r = some k → B ≤ k) : Below B w w' :=
  ⟨h.os, h.tape, h.output, h.size, fun k hk => h.block k (by omega) fun e => by have := hr k e.symm; omega⟩
set_option maxRecDepth 100000 in
set_option maxHeartbeats 4000000 in
theorem rwords_any (s : List UInt8) (hs : s.length ≤ 4000000) (w : World) : Calls Tryz.prog 28 #[.string ⟨s.toArray⟩] w fun e w' => WRes s w e w' := by
  obtain ⟨i0, hi0, hz0, hz1, hz2⟩ := info_parts strInfo
  obtain ⟨Y, hY⟩ : ∃ Y : ByteArray, Y = ⟨s.toArray⟩ := ⟨_, rfl⟩
  have hYs : Y.size = s.length := by rw [hY]; simp [ByteArray.size]
  have hsz : Y.size ≤ 4000000 := by omega
  rw [← hY]
  have HGet : Hid (∀ j (hj : j < Y.size), Y[j]'hj = s.getD j 0) := Lib.hid fun j hj => by
    subst hY
    rw [List.getD_eq_getElem?_getD, List.getElem?_eq_getElem (by omega)]
    rfl
  have HEx : Hid (∀ f i, f ≤ i → i ≤ Y.size → Value.string (Y.extract f i) = strV ((s.take i).drop f)) := Lib.hid fun f i h1 h2 => by
    unfold strV
    congr 1
    apply ByteArray.ext; apply Array.toList_inj.1
    rw [Lib.extract_data, hY]
    show (s.drop f).take (i - f) = (s.take i).drop f
    rw [List.drop_take]
  have HYs := Lib.hid hYs
  clear hY hYs hs
  go_enter Tryz.func28, Tryz.ntmps28
  go_wp2
  go_loopw [3, 4, 5] (fun lv fv iv wr => ∃ (i f : Nat) (ws : List (List UInt8)), iv = .int .i64 i ∧ fv = .int .i64 f ∧ i ≤ Y.size + 1 ∧ f ≤ Y.size + 1 ∧ ws.length ≤ i ∧ (i ≤ Y.size ∧ f ≤ i ∧ splitSp s = ws ++ splitSp (s.drop f) ∧ (32 : UInt8) ∉ (s.take i).drop f ∨ i = Y.size + 1 ∧ splitSp s = ws) ∧ (∃ a c, lv = .slice a ws.length c) ∧ WOwn wr w.heap.size lv ws ∧ Below w.heap.size w wr) (fun _ _ iv _ => Y.size + 1 - (intOf iv).toNat)
  case atStart => exact ⟨0, 0, [], rfl, rfl, by omega, by omega, by simp, .inl ⟨by omega, by omega, rfl, by simp⟩, ⟨none, 0, rfl⟩, World.ownsRow_nil _ _ _ _, Below.refl _ _⟩
  case round =>
    obtain ⟨i, f, ws, rfl, rfl, hi, hf, hwl, hcases, ⟨a, c, rfl⟩, hO, hB⟩ := hrel
    have HO := Lib.hid hO
    have HB := Lib.hid hB
    have hlt := World.ownsRow.lt hO
    have hbs := hB.size
    rcases hcases with ⟨hil, hfi, hsp, hno⟩ | ⟨rfl, hsp⟩
    · obtain ⟨k, hk⟩ : ∃ k, k = ws.length := ⟨_, rfl⟩
      rw [← hk] at hlt hwl ⊢
      have hO2 : wr.ownsRow w.heap.size 9 1 (.slice a k c) k (ws.map strV) := by
        have h := hO
        unfold WOwn at h
        rw [← hk] at h; exact h
      have HO2 := Lib.hid hO2
      have HK := Lib.hid hk
      have HLt := Lib.hid hlt
      have HSp := Lib.hid hsp
      have hiI : (i : Int) ≤ (Y.size : Int) := by omega
      have next : Hid (∀ (v' : Value) (w' : World), (wr.alloc (.cells #[.string (Y.extract f i)] 9)).grownBy w' (Value.slice a k c).ownBlock → w'.ownsRow w.heap.size 9 1 v' (k + 1) (ws.map strV ++ [.string (Y.extract f i)]) →
          (∃ a' c', v' = .slice a' (ws.length + 1) c') ∧ WOwn w' w.heap.size v' (ws ++ [(s.take i).drop f]) ∧ Below w.heap.size w w') := Lib.hid fun v' w' g o => by
        obtain ⟨h1, h2⟩ := WOwn.snoc (HEx.out f i hfi hil) HK.out o
        refine ⟨h1, h2, ?_⟩
        exact (HB.out.alloc HB.out.size _).trans (wgrown g (by simp; omega) (fun j hj => (HLt.out j hj).1))
      clear hO hB hO2 hlt hk hsp
      rcases Nat.lt_or_ge i Y.size with hlt2 | hge
      · have hne : ((i : Int) == (Y.size : Int)) = false := by rw [beq_eq_false_iff_ne]; omega
        have hiI2 : (i : Int) < (Y.size : Int) := by omega
        by_cases h32 : s.getD i 0 = 32
        · have hb : ((((Y[i]'hlt2).toNat : Nat) : Int) == 32) = true := by rw [HGet.out i hlt2, h32]; rfl
          have hst := split_step s f i hfi (by rw [← HYs.out]; exact hlt2) h32 hno
          have HSt : Hid (splitSp s = (ws ++ [(s.take i).drop f]) ++ splitSp (s.drop (i + 1))) := Lib.hid (by rw [HSp.out, hst]; simp)
          have hno2 : (32 : UInt8) ∉ (s.take (i + 1)).drop (i + 1) := by
            rw [List.drop_eq_nil_of_le (by rw [List.length_take]; omega)]; simp
          have HNo := Lib.hid hno2
          clear h32 hst hno hno2
          go_wp2_with (at_builtin; refine wpList_append_own _ rfl (.tmp 22) (.tmp 27) 72 rfl w.heap.size 9 i0 (.string ByteArray.empty) 1 16 Tryz.underlying72 hi0 hz0 hz1 hz2 rfl (by decide) (.slice a k c) k (ws.map strV) rfl (World.ownsRow.alloc HO2.out _) ⟨_, 0, none⟩ 1 1 [.string (Y.extract f i)] rfl rfl (cell_one_new _ _ _) (by simp [Value.oneCell']) (by unfold maxLen; omega) (by omega) (by simp; omega) ?_; intro v2 w2 o2 g2 _; obtain ⟨⟨a2, c2, hv2⟩, hw2, hb2⟩ := next.out v2 w2 g2 o2; subst hv2; have HW2 := Lib.hid hw2; have HB2 := Lib.hid hb2; clear o2 g2 hw2 hb2)
          go_roundw
          case rel => exact ⟨i + 1, i + 1, ws ++ [(s.take i).drop f], by go_num, by go_num, by omega, by omega, by have := HK.out; simp; omega, .inl ⟨by omega, by omega, HSt.out, HNo.out⟩, ⟨a2, c2, by simp⟩, HW2.out, HB2.out⟩
          case measure => simp only [intOf]; omega
        · have hb : ((((Y[i]'hlt2).toNat : Nat) : Int) == 32) = false := by
            rw [HGet.out i hlt2, beq_eq_false_iff_ne]
            intro e
            apply h32
            apply UInt8.toNat_inj.1
            have e32 : (32 : UInt8).toNat = 32 := rfl
            omega
          have HNo := Lib.hid (not_more s f i hfi (by rw [← HYs.out]; exact hlt2) h32 hno)
          clear h32 hno
          go_wp2
          go_roundw
          case rel => exact ⟨i + 1, f, ws, by go_num, rfl, by omega, by omega, by have := HK.out; omega, .inl ⟨by omega, by omega, HSp.out, HNo.out⟩, ⟨a, c, by rw [HK.out]⟩, (by have h := HO.out; rw [← HK.out] at h; exact h), HB.out⟩
          case measure => simp only [intOf]; omega
      · obtain rfl : i = Y.size := by omega
        have HSt : Hid (splitSp s = ws ++ [(s.take Y.size).drop f]) := Lib.hid (by
          rw [HSp.out]
          congr 1
          rw [HYs.out, List.take_length] at hno ⊢
          exact splitSp_no _ hno)
        clear hno
        go_wp2_with (at_builtin; refine wpList_append_own _ rfl (.tmp 22) (.tmp 27) 72 rfl w.heap.size 9 i0 (.string ByteArray.empty) 1 16 Tryz.underlying72 hi0 hz0 hz1 hz2 rfl (by decide) (.slice a k c) k (ws.map strV) rfl (World.ownsRow.alloc HO2.out _) ⟨_, 0, none⟩ 1 1 [.string (Y.extract f Y.size)] rfl rfl (cell_one_new _ _ _) (by simp [Value.oneCell']) (by unfold maxLen; omega) (by omega) (by simp; omega) ?_; intro v2 w2 o2 g2 _; obtain ⟨⟨a2, c2, hv2⟩, hw2, hb2⟩ := next.out v2 w2 g2 o2; subst hv2; have HW2 := Lib.hid hw2; have HB2 := Lib.hid hb2; clear o2 g2 hw2 hb2)
        go_roundw
        case rel => exact ⟨Y.size + 1, Y.size + 1, ws ++ [(s.take Y.size).drop f], by go_num, by go_num, by omega, by omega, by have := HK.out; simp; omega, .inr ⟨rfl, HSt.out⟩, ⟨a2, c2, by simp⟩, HW2.out, HB2.out⟩
        case measure => simp only [intOf]; omega
    · have hnot : decide (((Y.size + 1 : Nat) : Int) ≤ (Y.size : Int)) = false := decide_eq_false (by omega)
      have hnot2 : decide (Y.size + 1 ≤ Y.size) = false := decide_eq_false (by omega)
      have hnot3 : decide ((Y.size : Int) + 1 ≤ (Y.size : Int)) = false := decide_eq_false (by omega)
      have hres : Hid (WRes s w (.returned (.slice a ws.length c)) wr) := Lib.hid (by
        have hp := splitSp_pos s
        rw [hsp] at hp
        unfold WOwn at hO
        obtain ⟨n, hn⟩ : ∃ n, ws.length = n + 1 := ⟨ws.length - 1, by omega⟩
        have hO' := hO
        rw [hn] at hO'
        obtain ⟨g, cap, hv⟩ := ownsRow_succ hO'
        simp only [Value.slice.injEq] at hv
        obtain ⟨rfl, -, -⟩ := hv
        refine ⟨g, c, by rw [hsp], fun j hj => ?_, hB⟩
        rw [hsp] at hj ⊢
        have h := World.ownsRow.cellAt hO j (by omega)
        rw [h, List.getElem?_map, List.getElem?_eq_getElem hj, List.getD_eq_getElem?_getD, List.getElem?_eq_getElem hj]
        rfl)
      clear hO hB hlt hsp
      go_wp2
      go_ret
      exact hres.out
end Go.Proofs.YtalnepcbaegaeaaGreatDoor
