/- WALKS: a strings.Builder of a function's own: WriteString, WriteByte, String; where its bytes lie. -/
import Derived.Test.YtfejlkgddnamoaaGreatDoorBkBuild
import Derived.Test.YtfejlkgddnamoaaGreatDoorDeskShelf
import Derived.Maps.AppendAt
set_option linter.unusedVariables false
set_option linter.unusedSimpArgs false
namespace Go.Proofs.YtfejlkgddnamoaaGreatDoor
open Go Go.RowKit
section
variable {P : Program} (w : World)
theorem append_str_at (base : Nat) (t u ty e : TypeId) (i : TypeInfo) (ht : P.underlying t = some (.slice e)) (hu : P.underlying u = some .string) (hi : P.info? e = some i) (hz : i.zero = some (.int .u8 0))
    (hsize : i.size = 1) (hby : i.bytes = 1)
    (v : Value) (n : Nat) (xs : List Value) (hown : w.ownsRow base e 1 v n xs) (s : ByteArray)
    (h63 : n + s.size ≤ maxLen) (hbytes : n + s.size ≤ 140737488355328) (hbase : base ≤ w.heap.size) :
    ∃ v' w', (Builtin.append_ #[t, u] ty #[v, .string s]).run P w = .ok v' w' ∧ w'.ownsRow base e 1 v' (n + s.size) (xs ++ Lib.strCells s) ∧ w.grownBy w' v.ownBlock ∧
      ∀ k, v'.ownBlock = some k → v.ownBlock = some k ∨ w.heap.size ≤ k := by
  obtain ⟨v1, w1, h1, k1, g1, _⟩ := Lib.run_append_own_string (P := P) w base t u ty e i ht hu hi hz hsize hby v n xs hown s h63 hbytes hbase
  obtain ⟨v2, w2, h2, _, _, a2⟩ := append_txt_at (P := P) w base t u ty e i ht hu hi hz hsize hby v n xs (World.ownsRowF_of hown) s h63 hbytes hbase
  rw [h1] at h2
  injection h2 with e1 e2
  subst e1
  exact ⟨v1, w1, h1, k1, g1, a2⟩
theorem wpList_append_str {ops : Array Oper} {rest : List Oper} {o : Oper} {a : Act} {Q : Exit → Act → World → Prop} (hgd : o.guard = none) (sl x : Operand) (t u : TypeId)
    (ho : o.op = .call { callee := .builtin .append, args := #[sl, x], argTypes := #[t, u] })
    (base : Nat) (e : TypeId) (i : TypeInfo) (ht : P.underlying t = some (.slice e)) (hu : P.underlying u = some .string) (hi : P.info? e = some i) (hz : i.zero = some (.int .u8 0))
    (hsize : i.size = 1) (hby : i.bytes = 1)
    (v : Value) (n : Nat) (xs : List Value) (hs : a.eval sl = v) (hown : w.ownsRow base e 1 v n xs) (s : ByteArray) (hx : a.eval x = .string s)
    (h63 : n + s.size ≤ maxLen) (hbytes : n + s.size ≤ 140737488355328) (hbase : base ≤ w.heap.size)
    (h : ∀ v' w', w'.ownsRow base e 1 v' (n + s.size) (xs ++ Lib.strCells s) → w.grownBy w' v.ownBlock → (∀ k, v'.ownBlock = some k → v.ownBlock = some k ∨ w.heap.size ≤ k) → wpList P ops Q rest (a.put o.dst v') w') : wpList P ops Q (o :: rest) a w := by
  refine wpList_plain hgd fun K hK => ?_
  obtain ⟨v', w', hr, h2, h3, h4⟩ := append_str_at (P := P) w base t u o.type e i ht hu hi hz hsize hby v n xs hown s h63 hbytes hbase
  unfold Oper.wp execOp
  simp only [ho, resolve, invoke, builtin, Sem.run_bind, Sem.run_pure, Result.andThen_ok, List.map_toArray, List.map_cons, List.map_nil, hs, hx, hr]
  exact hK _ _ (h v' w' h2 h3 h4)
end
/-- the builder's block -/
def SbAt (w : World) (b : Nat) (p v : Value) : Prop := w.heap[b]? = some (.cells #[p, v] 52 (0, 0))
theorem SbAt.c0 {w : World} {b : Nat} {p v : Value} (h : SbAt w b p v) : w.cell? ⟨b, 0, none⟩ = some p := by unfold SbAt at h; simp [World.cell?, h]
theorem SbAt.c1 {w : World} {b : Nat} {p v : Value} (h : SbAt w b p v) : w.cell? ⟨b, 1, none⟩ = some v := by unfold SbAt at h; simp [World.cell?, h]
theorem SbAt.free {w : World} {b : Nat} {p v : Value} (h : SbAt w b p v) (o : Nat) : w.frozen? ⟨b, o, none⟩ = false := by unfold SbAt at h; simp [World.frozen?, h]
theorem SbAt.lt {w : World} {b : Nat} {p v : Value} (h : SbAt w b p v) : b < w.heap.size := lt_of_block h
theorem SbAt.shape {w : World} {b : Nat} {p v : Value} (h : SbAt w b p v) : w.shape? b = some (52, 2) := by unfold SbAt at h; simp [World.shape?, h]
theorem SbAt.set0 {w : World} {b : Nat} {p v : Value} (h : SbAt w b p v) (q : Value) : SbAt (w.setCell ⟨b, 0, none⟩ q) b q v := heap_setCell_same w b 0 _ _ _ h
theorem SbAt.set1 {w : World} {b : Nat} {p v : Value} (h : SbAt w b p v) (q : Value) : SbAt (w.setCell ⟨b, 1, none⟩ q) b p q := heap_setCell_same w b 1 _ _ _ h
theorem sbLies : liesAt Tryz.prog Tryz.prog.depth 52 (2 / Tryz.prog.cellsOf 52) 0 52 1 = true := by kernel_rfl
/-- a builder and its bytes -/
structure SbT (w : World) (B b : Nat) (v : Value) (T : List UInt8) : Prop where
  at_ : ∃ p, SbAt w b p v ∧ (p = .pointer none ∨ p = .pointer (some ⟨b, 0, none⟩))
  txt : w.ownsRow B 5 1 v T.length (Lib.byteCells T)
  low : B ≤ b
theorem SbT.lt {w : World} {B b : Nat} {v : Value} {T : List UInt8} (h : SbT w B b v T) : b < w.heap.size := by
  obtain ⟨p, hp, _⟩ := h.at_
  exact hp.lt
theorem SbT.ne {w : World} {B b : Nat} {v : Value} {T : List UInt8} (h : SbT w B b v T) : v.ownBlock ≠ some b := by
  obtain ⟨p, hp, _⟩ := h.at_
  exact Lib.ownBlock_neF (World.ownsRowF_of h.txt) hp (by decide)
theorem SbT.own {w : World} {B b : Nat} {v : Value} {T : List UInt8} (h : SbT w B b v T) : ∀ k, v.ownBlock = some k → B ≤ k ∧ k < w.heap.size := World.ownsRow.lt h.txt
theorem ownsRow_same {w w' : World} {B e n : Nat} {v : Value} {xs : List Value} (h : w.ownsRow B e 1 v n xs) (hw : ∀ k, v.ownBlock = some k → w'.heap[k]? = w.heap[k]?) : w'.ownsRow B e 1 v n xs := by
  refine ⟨h.1, ?_⟩
  rcases h.2 with h2 | ⟨g, cap, cur, h', hb, hg, hr⟩
  · exact .inl h2
  · refine .inr ⟨g, cap, cur, h', hb, ?_, hr⟩
    rw [hw g (by rw [h']; rfl)]; exact hg
theorem SbT.only {w w' : World} {B b : Nat} {v : Value} {T : List UInt8} {own : Nat → Prop} (h : SbT w B b v T) (o : Only w w' own) (hb : ¬ own b) (hv : ∀ k, v.ownBlock = some k → ¬ own k) : SbT w' B b v T := by
  obtain ⟨p, hp, hpp⟩ := h.at_
  exact ⟨⟨p, (o.block b hp.lt hb).trans hp, hpp⟩, ownsRow_same h.txt fun k hk => o.block k (h.own k hk).2 (hv k hk), h.low⟩
theorem SbT.fresh (w : World) (B b : Nat) (h : w.heap[b]? = some (.cells #[.pointer none, .slice none 0 0] 52 (0, 0))) (hB : B ≤ b) : SbT w B b (.slice none 0 0) [] :=
  ⟨⟨_, h, .inl rfl⟩, World.ownsRow_nil _ _ _ _, hB⟩

set_option maxHeartbeats 1000000 in
set_option maxRecDepth 100000 in
theorem copyCheck_sb (b : Nat) (p v : Value) (w : World) (h : SbAt w b p v) (hpp : p = .pointer none ∨ p = .pointer (some ⟨b, 0, none⟩)) :
    Calls Tryz.prog 51 #[.pointer (some ⟨b, 0, none⟩)] w fun e w' => e = .returned (.tuple #[]) ∧ SbAt w' b (.pointer (some ⟨b, 0, none⟩)) v ∧ Only w w' (fun k => k = b) := by
  obtain ⟨j, hj, hjs⟩ := Option.map_eq_some_iff.1 bkSize
  have c0 := h.c0
  have f0 := h.free 0
  have hsh := h.shape
  have HS := Lib.hid h
  clear h
  rcases hpp with rfl | rfl
  · go_enter Tryz.func51, Tryz.ntmps51
    go_wp2
    rw [Lib.run_to_unsafe w ⟨b, 0, none⟩ Tryz.underlying49 Tryz.underlying121 hj (by rw [hjs]; decide) hsh (show 0 < 2 by decide)]
    simp only [Result.andThen]
    rw [Oper.upon_value]
    go_wp2
    rw [run_callFunc_extern Tryz.func76 (by kernel_rfl) (by kernel_rfl) (by kernel_rfl) (e := Extern.AbiNoEscape.same) (by kernel_rfl)]
    rw [Lib.run_noEscape]
    simp only [Result.andThen]
    rw [Oper.upon_value]
    go_wp2
    rw [Lib.run_from_unsafe w ⟨b, 0, none⟩ Tryz.underlying121 Tryz.underlying49 hj hsh sbLies]
    simp only [Result.andThen]
    rw [Oper.upon_value]
    go_wp2
    go_end0
    exact ⟨rfl, HS.out.set0 _, Only.setCell w ⟨b, 0, none⟩ _ _ rfl⟩
  · go_enter Tryz.func51, Tryz.ntmps51
    go_wp2
    rw [Lib.run_neq_ptr_same w _ Tryz.underlying49 hj]
    go_wp2
    go_end0
    exact ⟨rfl, HS.out, Only.refl _ _⟩
/-- what a write leaves -/
def SbRes (B b : Nat) (v : Value) (T : List UInt8) (w w' : World) : Prop :=
  ∃ v', SbT w' B b v' T ∧ Only w w' (fun k => k = b ∨ v.ownBlock = some k) ∧ (∀ k, v'.ownBlock = some k → v.ownBlock = some k ∨ w.heap.size ≤ k)
theorem sb_res {B b : Nat} {v v' : Value} {T X : List UInt8} {w w1 w2 : World} (hb : B ≤ b) (h2 : SbAt w2 b (.pointer (some ⟨b, 0, none⟩)) v) (o1 : Only w w1 (fun k => k = b)) (hg : w1.grownBy w2 v.ownBlock) (hs1 : w.heap.size ≤ w1.heap.size)
    (hown : w2.ownsRow B 5 1 v' (T ++ X).length (Lib.byteCells (T ++ X))) (hat : ∀ k, v'.ownBlock = some k → v.ownBlock = some k ∨ w1.heap.size ≤ k) : SbRes B b v (T ++ X) w (w2.setCell ⟨b, 1, none⟩ v') := by
  have hne : v'.ownBlock ≠ some b := Lib.ownBlock_neF (World.ownsRowF_of hown) h2 (by decide)
  refine ⟨v', ⟨⟨_, h2.set1 _, .inr rfl⟩, ownsRow_same hown fun k hk => ?_, hb⟩, ?_, fun k hk => (hat k hk).imp_right (fun h => by omega)⟩
  · exact heap_setCell_other _ _ _ _ (fun c => hne (by rw [hk]; exact congrArg some c))
  · have o2 : Only w1 w2 (fun k => k = b ∨ v.ownBlock = some k) := ⟨hg.os, hg.tape, hg.output, hg.size, fun k hk hn => hg.block k hk (fun e => hn (.inr e.symm))⟩
    exact ((o1.mono (fun k _ e => .inl e)).trans o2 (fun _ _ h => h)).trans (Only.setCell w2 ⟨b, 1, none⟩ _ _ (.inl rfl)) (fun _ _ h => h)
set_option maxHeartbeats 2000000 in
set_option maxRecDepth 100000 in
theorem WriteString_sb (B b : Nat) (v : Value) (T : List UInt8) (s : ByteArray) (w : World) (h : SbT w B b v T) (hlen : T.length + s.size ≤ 140737488355328) :
    Calls Tryz.prog 34 #[.pointer (some ⟨b, 0, none⟩), .string s] w fun e w' => e = .returned (.tuple #[.int .i64 s.size, .nilIface]) ∧ SbRes B b v (T ++ s.data.toList) w w' := by
  obtain ⟨i0, hi, hz0, hz1, hz2⟩ := info_parts byteInfo
  obtain ⟨p, hp, hpp⟩ := h.at_
  have hB := h.low
  have hlt := hp.lt
  have HC := Lib.hid (copyCheck_sb b p v w hp hpp)
  have HH := Lib.hid h
  clear h hp hpp
  go_enter Tryz.func34, Tryz.ntmps34
  go_wp2_with fail
  refine HC.out.mono ?_
  rintro e w1 ⟨rfl, h1, o1⟩
  have hT1 : w1.ownsRow B 5 1 v T.length (Lib.byteCells T) := ownsRow_same HH.out.txt fun k hk => o1.block k (HH.out.own k hk).2 fun e => HH.out.ne (e ▸ hk)
  have c1 := h1.c1
  have HT1 := Lib.hid hT1
  have HB1 := Lib.hid h1
  have HO1 := Lib.hid o1
  have hs1 := o1.size
  clear h1 o1 hT1
  go_wp2_with (at_builtin; refine wpList_append_str _ rfl _ _ 50 9 rfl B 5 i0 Tryz.underlying50 Tryz.underlying9 hi hz0 hz1 hz2 _ _ _ rfl HT1.out s rfl ?c3 ?c4 ?c5 ?_)
  case c3 => unfold maxLen; omega
  case c4 => omega
  case c5 => omega
  intro v' w2 hown' hgrow hat
  have hb2 : SbAt w2 b (.pointer (some ⟨b, 0, none⟩)) v := (hgrow.block b HB1.out.lt (fun e => HH.out.ne e.symm)).trans HB1.out
  have d1 := hb2.c1
  have f1 := hb2.free 1
  have hTx : w2.ownsRow B 5 1 v' (T ++ s.data.toList).length (Lib.byteCells (T ++ s.data.toList)) := by
    rw [List.length_append, show s.data.toList.length = s.size from (Lib.size_eq s).symm, show Lib.byteCells (T ++ s.data.toList) = Lib.byteCells T ++ Lib.strCells s by simp [Lib.byteCells, Lib.strCells]]
    exact hown'
  obtain ⟨ao, n', cap, hv'⟩ : ∃ ao n' cap, v' = .slice ao n' cap := by
    rcases hown'.2 with ⟨hv, _⟩ | ⟨g, cap, cur, hv, _⟩
    · exact ⟨_, _, _, hv⟩
    · exact ⟨_, _, _, hv⟩
  have HRes := Lib.hid (sb_res hB hb2 HO1.out hgrow hs1 hTx hat)
  subst hv'
  clear hgrow hown' hb2 hat hTx
  go_wp2
  go_ret2
  exact ⟨rfl, HRes.out⟩
set_option maxHeartbeats 2000000 in
set_option maxRecDepth 100000 in
theorem WriteByte_sb (B b : Nat) (v : Value) (T : List UInt8) (c : UInt8) (w : World) (h : SbT w B b v T) (hlen : T.length + 1 ≤ 140737488355328) :
    Calls Tryz.prog 37 #[.pointer (some ⟨b, 0, none⟩), .int .u8 c.toNat] w fun e w' => e = .returned .nilIface ∧ SbRes B b v (T ++ [c]) w w' := by
  obtain ⟨i0, hi, hz0, hz1, hz2⟩ := info_parts byteInfo
  obtain ⟨p, hp, hpp⟩ := h.at_
  have hB := h.low
  have hlt := hp.lt
  have HC := Lib.hid (copyCheck_sb b p v w hp hpp)
  have HH := Lib.hid h
  clear h hp hpp
  go_enter Tryz.func37, Tryz.ntmps37
  go_wp2_with fail
  refine HC.out.mono ?_
  rintro e w1 ⟨rfl, h1, o1⟩
  have hT1 : w1.ownsRow B 5 1 v T.length (Lib.byteCells T) := ownsRow_same HH.out.txt fun k hk => o1.block k (HH.out.own k hk).2 fun e => HH.out.ne (e ▸ hk)
  have c1 := h1.c1
  have HT1 := Lib.hid hT1
  have HB1 := Lib.hid h1
  have HO1 := Lib.hid o1
  have hs1 := o1.size
  clear h1 o1 hT1
  go_wp2_with (at_builtin; refine wpList_append_own_at _ rfl _ _ 50 rfl B 5 i0 (.int .u8 0) 1 1 Tryz.underlying50 hi hz0 hz1 hz2 rfl (by decide) _ T.length (Lib.byteCells T) rfl (World.ownsRow.alloc HT1.out _) ⟨w1.heap.size, 0, none⟩ 1 1 [.int .u8 c.toNat] rfl rfl (cell_one_new _ _ _) (by simp [Value.oneCell']) ?c3 ?c4 ?c5 ?_)
  case c3 => unfold maxLen; omega
  case c4 => omega
  case c5 => simp; omega
  intro v' w2 hown' hgrow _ hat
  have hgA : w1.grownBy w2 v.ownBlock := by
    have hal : w1.grownBy (w1.alloc (.cells #[.int .u8 c.toNat] 5)) v.ownBlock := ⟨rfl, rfl, rfl, by simp, fun k hk _ => Below.heap_alloc _ _ k hk⟩
    exact hal.trans hgrow
  have hat' : ∀ k, v'.ownBlock = some k → v.ownBlock = some k ∨ w1.heap.size ≤ k := fun k hk => by
    rcases hat with e | e
    · left; rw [← e]; exact hk
    · right; rw [e] at hk; simp at hk; omega
  have hb2 : SbAt w2 b (.pointer (some ⟨b, 0, none⟩)) v := (hgA.block b HB1.out.lt (fun e => HH.out.ne e.symm)).trans HB1.out
  have d1 := hb2.c1
  have f1 := hb2.free 1
  have hTx : w2.ownsRow B 5 1 v' (T ++ [c]).length (Lib.byteCells (T ++ [c])) := by
    rw [List.length_append, show Lib.byteCells (T ++ [c]) = Lib.byteCells T ++ [.int .u8 c.toNat] by simp [Lib.byteCells]]
    exact hown'
  obtain ⟨ao, n', cap, hv'⟩ : ∃ ao n' cap, v' = .slice ao n' cap := by
    rcases hown'.2 with ⟨hv, _⟩ | ⟨g, cap, cur, hv, _⟩
    · exact ⟨_, _, _, hv⟩
    · exact ⟨_, _, _, hv⟩
  have HRes := Lib.hid (sb_res hB hb2 HO1.out hgA hs1 hTx hat')
  subst hv'
  clear hgrow hgA hown' hb2 hat hat' hTx
  go_wp2
  go_ret
  exact ⟨rfl, HRes.out⟩
theorem String_sb (B b : Nat) (v : Value) (T : List UInt8) (w : World) (h : SbT w B b v T) (hBw : B ≤ w.heap.size) :
    Calls Tryz.prog 25 #[.pointer (some ⟨b, 0, none⟩)] w fun e w' => e = .returned (.string ⟨T.toArray⟩) ∧ Below B w w' ∧ Lib.OthersKept 5 (some b) w w' := by
  refine (sd_Builder_String_any_k B b T w (Lib.IsBuilderF.of ?_) hBw).mono fun e w' ⟨h1, _, h3, h4⟩ => ⟨h1, h3, h4⟩
  obtain ⟨p, hp, hpp⟩ := h.at_
  have hl : (Lib.byteCells T).length = T.length := by simp [Lib.byteCells]
  rcases hpp with rfl | rfl
  · exact .inl ⟨h.low, v, hp, by rw [hl]; exact h.txt, h.ne⟩
  · exact .inr ⟨h.low, v, hp, by rw [hl]; exact h.txt, h.ne⟩
end Go.Proofs.YtfejlkgddnamoaaGreatDoor
