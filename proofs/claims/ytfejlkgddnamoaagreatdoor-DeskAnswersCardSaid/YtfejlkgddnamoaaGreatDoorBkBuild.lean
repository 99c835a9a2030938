/- WALKS: a strings.Builder that is a field of a book: copyCheck, WriteString, String. -/
import Derived.Test.YtfejlkgddnamoaaGreatDoorBkHeap
import Derived.Test.YtfejlkgddnamoaaGreatDoorBkApp
import Derived.Shelf.Strings.Builder1
import Derived.Lib.FrozenHead
import Derived.BigRegion
set_option linter.unusedVariables false
set_option linter.unusedSimpArgs false
namespace Go.Proofs.YtfejlkgddnamoaaGreatDoor
open Go Go.RowKit

/-- a book's own block -/
def BkAt (w : World) (S : Nat) (hp sq p v : Value) : Prop := w.heap[S]? = some (.cells #[hp, sq, p, v] 54 (0, 0))
theorem BkAt.c0 {w : World} {S : Nat} {hp sq p v : Value} (h : BkAt w S hp sq p v) : w.cell? ⟨S, 0, none⟩ = some hp := by unfold BkAt at h; simp [World.cell?, h]
theorem BkAt.c1 {w : World} {S : Nat} {hp sq p v : Value} (h : BkAt w S hp sq p v) : w.cell? ⟨S, 1, none⟩ = some sq := by unfold BkAt at h; simp [World.cell?, h]
theorem BkAt.c2 {w : World} {S : Nat} {hp sq p v : Value} (h : BkAt w S hp sq p v) : w.cell? ⟨S, 2, none⟩ = some p := by unfold BkAt at h; simp [World.cell?, h]
theorem BkAt.c3 {w : World} {S : Nat} {hp sq p v : Value} (h : BkAt w S hp sq p v) : w.cell? ⟨S, 3, none⟩ = some v := by unfold BkAt at h; simp [World.cell?, h]
theorem BkAt.free {w : World} {S : Nat} {hp sq p v : Value} (h : BkAt w S hp sq p v) (o : Nat) : w.frozen? ⟨S, o, none⟩ = false := by unfold BkAt at h; simp [World.frozen?, h]
theorem BkAt.lt {w : World} {S : Nat} {hp sq p v : Value} (h : BkAt w S hp sq p v) : S < w.heap.size := lt_of_block h
theorem BkAt.shape {w : World} {S : Nat} {hp sq p v : Value} (h : BkAt w S hp sq p v) : w.shape? S = some (54, 4) := by unfold BkAt at h; simp [World.shape?, h]
theorem BkAt.set2 {w : World} {S : Nat} {hp sq p v : Value} (h : BkAt w S hp sq p v) (q : Value) : BkAt (w.setCell ⟨S, 2, none⟩ q) S hp sq q v := heap_setCell_same w S 2 _ _ _ h
theorem BkAt.set3 {w : World} {S : Nat} {hp sq p v : Value} (h : BkAt w S hp sq p v) (q : Value) : BkAt (w.setCell ⟨S, 3, none⟩ q) S hp sq p q := heap_setCell_same w S 3 _ _ _ h
theorem BkAt.set1 {w : World} {S : Nat} {hp sq p v : Value} (h : BkAt w S hp sq p v) (q : Value) : BkAt (w.setCell ⟨S, 1, none⟩ q) S hp q p v := heap_setCell_same w S 1 _ _ _ h
theorem bkSize : (Tryz.prog.info? 52).map (·.size) = some 2 := by kernel_rfl
theorem bkLies : liesAt Tryz.prog Tryz.prog.depth 54 (4 / Tryz.prog.cellsOf 54) 2 52 1 = true := by kernel_rfl

set_option maxHeartbeats 1000000 in
set_option maxRecDepth 100000 in
theorem copyCheck_any (S : Nat) (hp sq p v : Value) (w : World) (h : BkAt w S hp sq p v) (hpp : p = .pointer none ∨ p = .pointer (some ⟨S, 2, none⟩)) :
    Calls Tryz.prog 51 #[.pointer (some ⟨S, 2, none⟩)] w fun e w' => e = .returned (.tuple #[]) ∧ BkAt w' S hp sq (.pointer (some ⟨S, 2, none⟩)) v ∧ Only w w' (fun k => k = S) := by
  obtain ⟨j, hj, hjs⟩ := Option.map_eq_some_iff.1 bkSize
  have c2 := h.c2
  have f2 := h.free 2
  have hsh := h.shape
  have HS := Lib.hid h
  clear h
  rcases hpp with rfl | rfl
  · go_enter Tryz.func51, Tryz.ntmps51
    go_wp2
    rw [Lib.run_to_unsafe w ⟨S, 2, none⟩ Tryz.underlying49 Tryz.underlying121 hj (by rw [hjs]; decide) hsh (show 2 < 4 by decide)]
    simp only [Result.andThen]
    rw [Oper.upon_value]
    go_wp2
    rw [run_callFunc_extern Tryz.func76 (by kernel_rfl) (by kernel_rfl) (by kernel_rfl) (e := Extern.AbiNoEscape.same) (by kernel_rfl)]
    rw [Lib.run_noEscape]
    simp only [Result.andThen]
    rw [Oper.upon_value]
    go_wp2
    rw [Lib.run_from_unsafe w ⟨S, 2, none⟩ Tryz.underlying121 Tryz.underlying49 hj hsh bkLies]
    simp only [Result.andThen]
    rw [Oper.upon_value]
    go_wp2
    go_end0
    exact ⟨rfl, HS.out.set2 _, Only.setCell w ⟨S, 2, none⟩ _ _ rfl⟩
  · go_enter Tryz.func51, Tryz.ntmps51
    go_wp2
    rw [Lib.run_neq_ptr_same w _ Tryz.underlying49 hj]
    go_wp2
    go_end0
    exact ⟨rfl, HS.out, Only.refl _ _⟩

/-- the book's text: bytes in a row of its own, some of them frozen -/
def TxtAt (w : World) (B : Nat) (v : Value) (T : List UInt8) : Prop := w.ownsRowF B 5 1 v T.length (Lib.byteCells T)
theorem byteInfo : (Tryz.prog.info? 5).map (fun i => (i.zero, i.size, i.bytes)) = some (some (.int .u8 0), 1, 1) := by kernel_rfl
theorem TxtAt.same {w w' : World} {B : Nat} {v : Value} {T : List UInt8} (h : TxtAt w B v T) (hw : ∀ k, v.ownBlock = some k → w'.heap[k]? = w.heap[k]?) : TxtAt w' B v T := by
  refine ⟨h.1, ?_⟩
  rcases h.2 with h2 | ⟨g, cap, cur, fz, h', hb, hg, hr⟩
  · exact .inl h2
  · refine .inr ⟨g, cap, cur, fz, h', hb, ?_, hr⟩
    rw [hw g (by rw [h']; rfl)]; exact hg
theorem TxtAt.slice {w : World} {B : Nat} {v : Value} {T : List UInt8} (h : TxtAt w B v T) : ∃ a cap, v = .slice a T.length cap := by
  rcases h.2 with ⟨hv, h0⟩ | ⟨g, cap, cur, fz, hv, _⟩
  · exact ⟨none, 0, by rw [hv, h0]⟩
  · exact ⟨_, _, hv⟩
theorem TxtAt.ne {w : World} {B S : Nat} {v hp sq p u : Value} {T : List UInt8} (h : TxtAt w B v T) (hS : BkAt w S hp sq p u) : v.ownBlock ≠ some S :=
  Lib.ownBlock_neF h hS (by decide)
theorem TxtAt.lt {w : World} {B : Nat} {v : Value} {T : List UInt8} (h : TxtAt w B v T) : ∀ k, v.ownBlock = some k → B ≤ k ∧ k < w.heap.size := World.ownsRowF.lt h
theorem strCells_bytes (s : ByteArray) : Lib.strCells s = Lib.byteCells s.data.toList := rfl

set_option maxHeartbeats 2000000 in
set_option maxRecDepth 100000 in
theorem WriteString_any (S B : Nat) (hp sq p v : Value) (T : List UInt8) (s : ByteArray) (w : World) (h : BkAt w S hp sq p v) (hpp : p = .pointer none ∨ p = .pointer (some ⟨S, 2, none⟩)) (hT : TxtAt w B v T)
    (hlen : T.length + s.size ≤ 140737488355328) (hB : B ≤ w.heap.size) :
    Calls Tryz.prog 34 #[.pointer (some ⟨S, 2, none⟩), .string s] w fun e w' => e = .returned (.tuple #[.int .i64 s.size, .nilIface]) ∧ ∃ v', BkAt w' S hp sq (.pointer (some ⟨S, 2, none⟩)) v' ∧ TxtAt w' B v' (T ++ s.data.toList) ∧
      Only w w' (fun k => k = S ∨ v.ownBlock = some k) ∧ (∀ k, v'.ownBlock = some k → v.ownBlock = some k ∨ w.heap.size ≤ k) := by
  obtain ⟨i0, hi, hz0, hz1, hz2⟩ := info_parts byteInfo
  have HC := Lib.hid (copyCheck_any S hp sq p v w h hpp)
  have HT := Lib.hid hT
  have Hne := Lib.hid (hT.ne h)
  clear h hT hpp
  go_enter Tryz.func34, Tryz.ntmps34
  go_wp2_with fail
  refine HC.out.mono ?_
  rintro e w1 ⟨rfl, h1, o1⟩
  have hT1 : TxtAt w1 B v T := HT.out.same fun k hk => o1.block k (HT.out.lt k hk).2 fun e => Hne.out (e ▸ hk)
  have c3 := h1.c3
  have HT1 := Lib.hid hT1
  have HB1 := Lib.hid h1
  have HO1 := Lib.hid o1
  have hs1 := o1.size
  clear h1 o1 hT1
  go_wp2_with (at_builtin; refine wpList_append_txt _ rfl _ _ 50 9 rfl B 5 i0 Tryz.underlying50 Tryz.underlying9 hi hz0 hz1 hz2 _ _ _ rfl HT1.out s rfl ?c3 ?c4 ?c5 ?_)
  case c3 => unfold maxLen; omega
  case c4 => omega
  case c5 => omega
  intro v' w2 hown' hgrow hat
  have hlt := HB1.out.lt
  have hne1 := Hne.out
  have hb2 : BkAt w2 S hp sq (.pointer (some ⟨S, 2, none⟩)) v := by
    have := hgrow.block S hlt (fun e => hne1 e.symm)
    unfold BkAt; rw [this]; exact HB1.out
  have d3 := hb2.c3
  have f3 := hb2.free 3
  obtain ⟨ao, n', cap, hv'⟩ : ∃ ao n' cap, v' = .slice ao n' cap := by
    rcases hown'.2 with ⟨hv, _⟩ | ⟨g, cap, cur, fz, hv, _⟩
    · exact ⟨_, _, _, hv⟩
    · exact ⟨_, _, _, hv⟩
  have hTx : TxtAt w2 B v' (T ++ s.data.toList) := by
    unfold TxtAt
    rw [List.length_append, show s.data.toList.length = s.size from (Lib.size_eq s).symm, show Lib.byteCells (T ++ s.data.toList) = Lib.byteCells T ++ Lib.strCells s by simp [Lib.byteCells, Lib.strCells]]
    exact hown'
  have HTx := Lib.hid hTx
  have HG := Lib.hid hgrow
  have HAt := Lib.hid hat
  have HB2 := Lib.hid hb2
  subst hv'
  clear hgrow hown' hb2 hat hTx
  go_wp2
  go_ret2
  refine ⟨rfl, _, HB2.out.set3 _, HTx.out.same fun k hk => ?_, ?_, fun k hk => (HAt.out k hk).imp_right (fun h => by omega)⟩
  · refine heap_setCell_other _ _ _ _ (fun c => ?_)
    exact HTx.out.ne HB2.out (by rw [hk]; exact congrArg some c)
  · have o2 : Only w1 w2 (fun k => k = S ∨ v.ownBlock = some k) := ⟨HG.out.os, HG.out.tape, HG.out.output, HG.out.size, fun k hk hn => HG.out.block k hk (fun e => hn (.inr e.symm))⟩
    exact ((HO1.out.mono (fun k _ e => .inl e)).trans o2 (fun _ _ h => h)).trans (Only.setCell w2 ⟨S, 3, none⟩ _ _ (.inl rfl)) (fun _ _ h => h)

/-! ### String -/
/-- what marks leave -/
theorem freeze_other (w : World) (g n j : Nat) (h : j ≠ g) : (w.freeze ⟨g, 0, none⟩ n).heap[j]? = w.heap[j]? := by
  unfold World.freeze
  split
  · rfl
  · simp [Array.getElem?_modify, Ne.symm h]
theorem freeze_size (w : World) (g n : Nat) : (w.freeze ⟨g, 0, none⟩ n).heap.size = w.heap.size := by
  unfold World.freeze
  split <;> simp
theorem freeze_only (w : World) (g n : Nat) : Only w (w.freeze ⟨g, 0, none⟩ n) (fun k => k = g) := by
  refine ⟨?_, ?_, ?_, by rw [freeze_size]; exact Nat.le_refl _, fun k _ hn => freeze_other w g n k hn⟩ <;> (unfold World.freeze; split <;> rfl)
theorem TxtAt.froze {w : World} {B g cap : Nat} {T : List UInt8} (h : TxtAt w B (.slice (some ⟨g, 0, none⟩) T.length cap) T) : TxtAt (w.freeze ⟨g, 0, none⟩ T.length) B (.slice (some ⟨g, 0, none⟩) T.length cap) T := by
  unfold World.freeze
  split
  · exact h
  · rcases h.2 with ⟨hv, _⟩ | ⟨g', cap', cur, fz, hv, hbg, hg, hfz, rest⟩
    · cases hv
    · injection hv with ha _ hcap
      injection ha with ha
      injection ha with hgg _ _
      subst hgg
      subst hcap
      obtain ⟨lo, hi⟩ := fz
      refine ⟨h.1, .inr ⟨g, _, cur, (if lo == hi then (0, 0 + T.length) else (min lo 0, max hi (0 + T.length))), rfl, hbg, ?_, ?_, rest⟩⟩
      · simp [Array.getElem?_modify, hg]
      · simp only at hfz ⊢
        split
        · simp
        · simp only; omega
set_option maxHeartbeats 2000000 in
set_option maxRecDepth 100000 in
theorem String_some (S B : Nat) (hp sq p v : Value) (T : List UInt8) (w : World) (h : BkAt w S hp sq p v) (hT : TxtAt w B v T) (h0 : T ≠ []) :
    Calls Tryz.prog 25 #[.pointer (some ⟨S, 2, none⟩)] w fun e w' => e = .returned (.string ⟨T.toArray⟩) ∧ BkAt w' S hp sq p v ∧ TxtAt w' B v T ∧ Only w w' (fun k => v.ownBlock = some k) := by
  have hne := hT.ne h
  have hl0 : T.length ≠ 0 := by simpa using h0
  rcases hT.2 with ⟨rfl, hz⟩ | ⟨g, cap, cur, fz, rfl, hbg, hg, hfz, hnc, hcm, hcs, htake⟩
  · exact absurd hz hl0
  · have c3 : w.drew.cell? ⟨S, 3, none⟩ = some (.slice (some ⟨g, 0, none⟩) T.length cap) := h.c3
    have hSD : (Builtin.unsafeSliceData_ #[50] 86 #[.slice (some ⟨g, 0, none⟩) T.length cap]).run Tryz.prog w.drew = .ok (.pointer (some ⟨g, 0, none⟩)) w.drew :=
      Lib.run_unsafeSliceData_row _ _ _ _ _ _ (by omega)
    have hUS : (Builtin.unsafeString_ #[86, 3] 9 #[.pointer (some ⟨g, 0, none⟩), .int .i64 T.length]).run Tryz.prog w.drew = .ok (.string ⟨T.toArray⟩) (w.drew.freeze ⟨g, 0, none⟩ T.length) := by
      refine Lib.run_unsafeString_row w.drew 86 3 9 5 Tryz.underlying86 (by kernel_rfl) g cur.size (by have hg' : w.drew.heap[g]? = some (.cells cur 5 fz) := hg; simp [World.shape?, hg']) T h0 (by omega) (by unfold maxLen at hcm; omega) ?_
      intro j x hx
      have := World.ownsRowF.cells hT (g := g) rfl j (.int .u8 x.toNat) (by simp [Lib.byteCells, hx])
      exact this
    have hgS : S ≠ g := fun e => hne (by rw [e]; rfl)
    have hkeep : BkAt (w.drew.freeze ⟨g, 0, none⟩ T.length) S hp sq p (.slice (some ⟨g, 0, none⟩) T.length cap) ∧ TxtAt (w.drew.freeze ⟨g, 0, none⟩ T.length) B (.slice (some ⟨g, 0, none⟩) T.length cap) T ∧ Only w (w.drew.freeze ⟨g, 0, none⟩ T.length) (fun k => (Value.slice (some ⟨g, 0, none⟩) T.length cap).ownBlock = some k) :=
      ⟨(freeze_other w.drew g T.length S hgS).trans h, TxtAt.froze (w := w.drew) hT, (((Only.refl w (fun k => k = g)).drewN 1).trans (freeze_only w.drew g T.length) (fun _ _ h => h)).mono (fun k _ e => by rw [e]; rfl)⟩
    have HK := Lib.hid hkeep
    have mixed : Tryz.prog.follows Departure.mixedOrders = true := by kernel_rfl
    clear hkeep hT h hg hfz htake hcs hne
    go_enter Tryz.func25, Tryz.ntmps25
    go_wp2
    go_region_o
    all_goals (go_wp2; go_ret; exact ⟨rfl, HK.out⟩)
set_option maxHeartbeats 2000000 in
set_option maxRecDepth 100000 in
theorem String_none (S B : Nat) (hp sq p : Value) (w : World) (h : BkAt w S hp sq p (.slice none 0 0)) :
    Calls Tryz.prog 25 #[.pointer (some ⟨S, 2, none⟩)] w fun e w' => e = .returned (.string ⟨#[]⟩) ∧ ∃ q, w' = w.drewN q := by
  have hUS : (Builtin.unsafeString_ #[86, 3] 9 #[.pointer none, .int .i64 0]).run Tryz.prog w.drew = .ok (.string .empty) w.drew := Lib.run_unsafeString_none w.drew _ _ _ none
  have hSD : (Builtin.unsafeSliceData_ #[50] 86 #[.slice none 0 0]).run Tryz.prog w.drew = .ok (.pointer none) w.drew := rfl
  have c3 : w.drew.cell? ⟨S, 3, none⟩ = some (.slice none 0 0) := h.c3
  have mixed : Tryz.prog.follows Departure.mixedOrders = true := by kernel_rfl
  clear h
  go_enter Tryz.func25, Tryz.ntmps25
  go_wp2
  go_region_o
  all_goals (go_wp2; go_ret; exact ⟨rfl, 1, rfl⟩)
end Go.Proofs.YtfejlkgddnamoaaGreatDoor
