/- WALK: the law BookTurned. -/
import Derived.Test.YtalnepcbaegaeaaGreatDoorBkPair
import Derived.Test.YtalnepcbaegaeaaGreatDoorBkFact
import Derived.Test.YtalnepcbaegaeaaGreatDoorTurnPlain
import Derived.Test.YtalnepcbaegaeaaGreatDoorErr
import Derived.WalkSmall
import Derived.Laws.BytesString
import Derived.Laws.IdiomStrings
set_option linter.unusedVariables false
set_option linter.unusedSimpArgs false
namespace Go.Proofs.YtalnepcbaegaeaaGreatDoor
open Go Go.RowKit SimPlain HeapPlain BookPlain NumPlain SpPlain LinesPlain

theorem wf_range {n : Int} (h : (Lit.int .i64 n).wf = true) : -9223372036854775808 ≤ n ∧ n ≤ 9223372036854775807 := by
  simp [Lit.wf, IntKind.min, IntKind.max, IntKind.signed, IntKind.bits] at h
  omega
theorem wf_byte {n : Int} (h : (Lit.int .u8 n).wf = true) : 0 ≤ n ∧ n ≤ 255 := by
  simp [Lit.wf, IntKind.min, IntKind.max, IntKind.signed, IntKind.bits] at h
  omega
set_option maxRecDepth 100000 in
set_option maxHeartbeats 4000000 in
theorem BookTurned_walk (l : List Ev) (a0 : Option Addr) (cap0 : Nat) (k : Int) (cc : Int) (w : World) (hx : EvA w a0 l) (hl : l.length ≤ 9223372036854775807) (hk0 : -9223372036854775808 ≤ k) (hk1 : k ≤ 9223372036854775807) (hc0 : 0 ≤ cc) (hc1 : cc ≤ 255) (env : Env w) (hg : Handle w) :
    Calls Tryz.prog 4 #[.slice a0 l.length cap0, .int .i64 k, .int .u8 cc] w fun e w' => e = .returned (.bool true) ∧ Below w.heap.size w w' := by
  have HEnv := Lib.hid env
  have HG := Lib.hid hg
  have HX := Lib.hid hx
  have HFact := Lib.hid (bookFact_any w env.tab)
  obtain ⟨N, hN⟩ : ∃ N, N = l.length := ⟨_, rfl⟩
  have HTold : Hid (∀ W, Below w.heap.size w W → Calls Tryz.prog 14 #[.slice a0 N cap0] W fun e w' => ∃ S F i, e = .returned (.pointer (some ⟨S, 0, none⟩)) ∧ i ≤ 140 ∧ (i = l.length ∨ i = 140) ∧ BookS w' W.heap.size S F (toldB (l.take i)) i ∧ Below W.heap.size W w') := Lib.hid fun W b => by
    rw [hN]; exact told_any l a0 cap0 W (hx.below b) hl (env.to b).tab
  rw [← hN] at hl ⊢
  have HN := Lib.hid hN
  clear hx hN env hg
  go_enter Tryz.func4, Tryz.ntmps4
  go_wp2_with fail
  refine HFact.out.mono ?_
  rintro e w1 ⟨rfl, hb1⟩
  have HB1 := Lib.hid hb1
  clear hb1
  go_wp2_with fail
  refine (HTold.out w1 HB1.out).mono ?_
  rintro e w2 ⟨S, F, ii, rfl, hi, hii, hS, hb2⟩
  have hb02 : Below w.heap.size w w2 := HB1.out.trans (hb2.mono HB1.out.size)
  obtain ⟨T, hT⟩ : ∃ T, T = (toldB (l.take ii)).T := ⟨_, rfl⟩
  have HTurn := Lib.hid (turned_open (l.take ii))
  obtain ⟨Y, hY⟩ : ∃ Y : ByteArray, Y = ⟨T.toArray⟩ := ⟨_, rfl⟩
  have hYs : Y.size = T.length := by rw [hY]; simp [ByteArray.size]
  have hTx : T.length ≤ 100000 := by rw [hT]; exact told_txt hS (by omega)
  have HText : Hid (Calls Tryz.prog 9 #[.pointer (some ⟨S, 0, none⟩)] w2 fun e w' => e = .returned (.string Y) ∧ Below w.heap.size w w') := Lib.hid (by
    rw [hY, hT]
    refine (BText_any S w1.heap.size F _ _ _ w2 hS.book).mono ?_
    rintro e w' ⟨rfl, -, o⟩
    exact ⟨rfl, hb02.trans (o.below hb02.size (fun k c => by have := (hS.book.fb k c).1; have := HB1.out.size; omega))⟩)
  rw [← hT] at HTurn
  have HY := Lib.hid hY
  have HYs := Lib.hid hYs
  have HTx := Lib.hid hTx
  have Hi := Lib.hid hi
  clear hS hb2 hb02 hT hY hTx hii hi hYs
  go_wp2_with fail
  refine HText.out.mono ?_
  rintro e w3 ⟨rfl, hb3⟩
  have HB3 := Lib.hid hb3
  clear hb3
  by_cases hneg : k < 0
  · go_wp2
    go_ret
    exact ⟨rfl, HB3.out⟩
  · have hk0' : (0 : Int) ≤ k := by omega
    have hnn : decide (k < 0) = false := decide_eq_false hneg
    clear hneg
    by_cases hbig : (Y.size : Int) ≤ k
    · go_wp2
      go_ret
      exact ⟨rfl, HB3.out⟩
    · obtain ⟨kn, rfl⟩ : ∃ kn : Nat, k = kn := ⟨k.toNat, by omega⟩
      have hkY : (kn : Int) < (Y.size : Int) := by omega
      have hkN : kn < Y.size := by omega
      have hns : Y.size ≤ 100000 := by rw [HYs.out]; exact HTx.out
      have hnb : decide ((Y.size : Int) ≤ (kn : Int)) = false := decide_eq_false hbig
      have hnb2 : decide (Y.size ≤ kn) = false := decide_eq_false (by omega)
      clear hbig hk0 hk1
      have hget : Hid (Y[kn]'hkN = T.getD kn 0) := Lib.hid (by
        have h := HY.out
        subst h
        rw [List.getD_eq_getElem?_getD, List.getElem?_eq_getElem (by have := HYs.out; omega)]
        rfl)
      rcases Bool.eq_false_or_eq_true ((((Y[kn]'hkN).toNat : Nat) : Int) == 10) with hb | hb
      · go_wp2
        go_ret
        exact ⟨rfl, HB3.out⟩
      · rcases Bool.eq_false_or_eq_true (cc == 10) with hb2 | hb2
        · go_wp2
          go_ret
          exact ⟨rfl, HB3.out⟩
        · rcases Bool.eq_false_or_eq_true ((((Y[kn]'hkN).toNat : Nat) : Int) == cc) with hb3 | hb3
          · go_wp2
            go_ret
            exact ⟨rfl, HB3.out⟩
          · obtain ⟨cn, rfl⟩ : ∃ cn : Nat, cc = cn := ⟨cc.toNat, by omega⟩
            have h10 : T.getD kn 0 ≠ 10 := fun h => by
              rw [← hget.out] at h
              rw [h] at hb
              simp at hb
            have hc10 : UInt8.ofNat cn ≠ 10 := fun h => by
              have h2 := congrArg UInt8.toNat h
              rw [UInt8.toNat_ofNat'] at h2
              have h3 : (10 : UInt8).toNat = 10 := rfl
              rw [beq_eq_false_iff_ne] at hb2
              omega
            have hcne : UInt8.ofNat cn ≠ T.getD kn 0 := fun h => by
              have h2 := congrArg UInt8.toNat h
              rw [UInt8.toNat_ofNat', ← hget.out] at h2
              rw [beq_eq_false_iff_ne] at hb3
              omega
            have HT2 := Lib.hid (HTurn.out kn (UInt8.ofNat cn))
            go_wp2
            clear hb hb2 hb3 hnb hnb2 hnn
            go_loopw [10, 11] (fun lv iv wr => ∃ j : Nat, iv = .int .i64 j ∧ j ≤ kn ∧ lv = .int .i64 ((T.take j).count 10 + 1 : Nat) ∧ wr = w3) (fun _ iv _ => kn - (intOf iv).toNat)
            case atStart => exact ⟨0, rfl, by omega, by simp, rfl⟩
            case round =>
              obtain ⟨j, rfl, hjk, rfl, rfl⟩ := hrel
              obtain ⟨c, hc⟩ : ∃ c, c = (T.take j).count 10 := ⟨_, rfl⟩
              have hcj : c ≤ 100000 := by
                rw [hc]
                have := List.count_le_length (a := (10 : UInt8)) (l := T.take j)
                rw [List.length_take] at this
                have := HTx.out; omega
              rw [← hc]
              have HC := Lib.hid hc
              obtain ⟨cl, hcl⟩ : ∃ cl, cl = c + 1 := ⟨_, rfl⟩
              have hclb : cl ≤ 100001 := by omega
              rw [← hcl]
              have HCl := Lib.hid hcl
              clear hc hcl hcj
              rcases Nat.lt_or_ge j kn with hlt | hge
              · have hjI : (j : Int) < (kn : Int) := by omega
                have hjY : (j : Int) < (Y.size : Int) := by omega
                have hjN : j < Y.size := by omega
                have hgj : Hid (Y[j]'hjN = T.getD j 0) := Lib.hid (by
                  have h := HY.out
                  subst h
                  rw [List.getD_eq_getElem?_getD, List.getElem?_eq_getElem (by have := HYs.out; omega)]
                  rfl)
                have hstep := count_step T j (by have := HYs.out; omega)
                rw [← HC.out] at hstep
                rcases Bool.eq_false_or_eq_true ((((Y[j]'hjN).toNat : Nat) : Int) == 10) with hb | hb
                · have e10 : T.getD j 0 = 10 := by
                    rw [← hgj.out]
                    apply UInt8.toNat_inj.1
                    have := eq_of_beq hb
                    have h10 : (10 : UInt8).toNat = 10 := rfl
                    omega
                  rw [if_pos e10] at hstep
                  have HStep : Hid (List.count 10 (List.take (j + 1) T) + 1 = cl + 1) := Lib.hid (by have := HCl.out; omega)
                  clear hstep e10
                  go_wp2
                  go_roundw
                  case rel => exact ⟨j + 1, by go_num, by omega, by rw [HStep.out]; go_num, trivial⟩
                  case measure => simp only [intOf]; omega
                · have e10 : ¬ T.getD j 0 = 10 := fun h => by
                    rw [← hgj.out] at h
                    rw [h] at hb
                    simp at hb
                  rw [if_neg e10] at hstep
                  have HStep : Hid (List.count 10 (List.take (j + 1) T) + 1 = cl) := Lib.hid (by have := HCl.out; omega)
                  clear hstep e10
                  go_wp2
                  go_roundw
                  case rel => exact ⟨j + 1, by go_num, by omega, by rw [HStep.out], trivial⟩
                  case measure => simp only [intOf]; omega
              · obtain rfl : j = kn := by omega
                have hjd : decide ((j : Int) < (j : Int)) = false := by simp
                have hjd2 : decide (j < j) = false := by simp
                obtain ⟨r, hr1, hr2, hr3⟩ := HT2.out (by have := HYs.out; omega) h10 hc10 hcne
                obtain ⟨U, hU⟩ : ∃ U, U = T.set j (UInt8.ofNat cn) := ⟨_, rfl⟩
                rw [← hU] at hr2 hr3
                rw [← HC.out, ← HCl.out] at hr2
                have hUl : U.length = T.length := by rw [hU]; simp
                have hll : (l.take ii).length ≤ 140 := by rw [List.length_take]; have := Hi.out; omega
                have HOpen : Hid (∀ W, Below w.heap.size w W → Calls Tryz.prog 6 #[.string ⟨U.toArray⟩] W fun e w' => OpenRes U W e w') := Lib.hid fun W b =>
                  Open_any U W (HEnv.out.to b) (by rw [hUl]; have := HTx.out; omega) (by omega)
                obtain ⟨X, hX⟩ : ∃ X : ByteArray, X = ⟨U.toArray⟩ := ⟨_, rfl⟩
                rw [← hX] at HOpen
                have HR1 := Lib.hid hr1
                have HR2 := Lib.hid hr2
                have hjs : j + 1 ≤ Y.size := by omega
                -- the text, put together
                obtain ⟨Y1, hY1⟩ : ∃ Y1 : ByteArray, Y1 = Y.extract 0 j := ⟨_, rfl⟩
                obtain ⟨Y2, hY2⟩ : ∃ Y2 : ByteArray, Y2 = ⟨#[UInt8.ofNat cn]⟩ := ⟨_, rfl⟩
                obtain ⟨Y3, hY3⟩ : ∃ Y3 : ByteArray, Y3 = Y.extract (j + 1) Y.size := ⟨_, rfl⟩
                obtain ⟨Z, hZ, hZs⟩ := mk_list (Y1.data.toList ++ Y2.data.toList)
                have d1 : Y1.data.toList = T.take j := by rw [hY1, Lib.extract_data, HY.out]; simp
                have d3 : Y3.data.toList = T.drop (j + 1) := by rw [hY3, Lib.extract_data, HY.out]; exact List.take_of_length_le (by simp [ByteArray.size])
                have d2 : Y2.data.toList = [UInt8.ofNat cn] := by rw [hY2]
                have sz1 : Y1.size = j := by rw [Lib.size_eq, d1, List.length_take]; have := HYs.out; omega
                have sz2 : Y2.size = 1 := by rw [Lib.size_eq, d2]; rfl
                have sz3 : Y3.size = Y.size - (j + 1) := by rw [Lib.size_eq, d3, List.length_drop]; have := HYs.out; omega
                have szz : Z.size = j + 1 := by rw [hZs, d1, d2, List.length_append, List.length_take]; simp; have := HYs.out; omega
                have r1 : ∀ W, (Op.stringOp .add Y1 Y2).run Tryz.prog W = .ok (.string Z) W := fun W => cat_run Y1 Y2 Z hZ (by omega) W
                have r2 : ∀ W, (Op.stringOp .add Z Y3).run Tryz.prog W = .ok (.string X) W := fun W => cat_run Z Y3 X (by
                  rw [hX, hZ, d1, d2, d3, hU, set_split T j _ (by have := HYs.out; omega)]; simp) (by omega) W
                rw [hY1, hY2] at r1
                rw [hY3] at r2
                clear hr1 hr2 hr3 hU hUl hll hX hZ hZs d1 d2 d3 sz1 sz2 sz3 szz h10 hc10 hcne hY1 hY2 hY3
                have rcv : ∀ W b cap, W.cell? ⟨b, 0, none⟩ = some (.int .u8 (cn : Int)) → (convert 44 9 (.slice (some ⟨b, 0, none⟩) 1 cap)).run Tryz.prog W = .ok (.string ⟨#[UInt8.ofNat cn]⟩) W := fun W b cap hcell =>
                  run_convert_bytes_back W 44 9 5 ⟨b, 0, none⟩ cap [UInt8.ofNat cn] Tryz.underlying44 Tryz.underlying5 Tryz.underlying9 (fun jj hjj => by
                    obtain rfl : jj = 0 := by simp at hjj; omega
                    have e : (UInt8.ofNat cn).toNat = cn := by rw [UInt8.toNat_ofNat']; omega
                    simp [Addr.add, hcell, e])
                have hcn : (wr.alloc (.cells #[.int .u8 (cn : Int)] 5)).drew.cell? ⟨wr.heap.size, 0, none⟩ = some (.int .u8 (cn : Int)) := by
                  have h := heap_alloc_new wr (.cells #[.int .u8 (cn : Int)] 5)
                  have h2 : (wr.alloc (.cells #[.int .u8 (cn : Int)] 5)).drew.heap[wr.heap.size]? = some (.cells #[.int .u8 (cn : Int)] 5 (0, 0)) := h
                  unfold World.cell?
                  simp only [h2]
                  rfl
                have rcv2 := rcv (wr.alloc (.cells #[.int .u8 (cn : Int)] 5)).drew wr.heap.size 1 hcn
                have hjle : j ≤ Y.size := by omega
                have wj : IntKind.i64.wrap ((j : Int) + 1) = (j : Int) + 1 := IntWalk.i64_in _ (by omega)
                have hcond : 0 ≤ (j : Int) + 1 ∧ (j : Int) + 1 ≤ (Y.size : Int) := by omega
                have htn : ((j : Int) + 1).toNat = j + 1 := by omega
                go_wp2
                refine wp_region_any (by kernel_rfl) ?_
                try (change wpAny _ _ _ _ _ _ _ (World.drew _))
                refine wpAny_take (i := 0) (v := ?_) rfl (by kernel_rfl) (by kernel_rfl) (by kernel_rfl) (fun _ _ _ h => h) (Or.inl ⟨by kernel_rfl, ?_⟩) ?_
                rotate_left
                · (intro w; go_simp; try with_reducible rfl)
                refine wpAny_take (i := 1) (v := ?_) rfl (by kernel_rfl) (by kernel_rfl) (by kernel_rfl) (fun _ _ _ h => h) (Or.inl ⟨by kernel_rfl, ?_⟩) ?_
                rotate_left
                · (intro w; go_simp; try with_reducible rfl)
                refine wpAny_take (i := 2) (v := ?_) rfl (by kernel_rfl) (by kernel_rfl) (by kernel_rfl) (fun _ _ _ h => h) (Or.inl ⟨by kernel_rfl, ?_⟩) ?_
                rotate_left
                · (intro w; go_simp; try with_reducible rfl)
                refine wpAny_take (i := 3) (v := ?_) rfl (by kernel_rfl) (by kernel_rfl) (by kernel_rfl) (fun _ _ _ h => h) (Or.inl ⟨by kernel_rfl, ?_⟩) ?_
                rotate_left
                · (intro w; go_simp; try with_reducible rfl)
                refine wpAny_take (i := 7) (v := ?_) rfl (by kernel_rfl) (by kernel_rfl) (by kernel_rfl) (fun _ _ _ h => h) (Or.inl ⟨by kernel_rfl, ?_⟩) ?_
                rotate_left
                · (intro w; go_simp; try with_reducible rfl)
                refine wpAny_take (i := 8) (v := ?_) rfl (by kernel_rfl) (by kernel_rfl) (by kernel_rfl) (fun _ _ _ h => h) (Or.inl ⟨by kernel_rfl, ?_⟩) ?_
                rotate_left
                · (intro w; go_simp; try with_reducible rfl)
                refine wpAny_take (i := 9) (v := ?_) rfl (by kernel_rfl) (by kernel_rfl) (by kernel_rfl) (fun _ _ _ h => h) (Or.inl ⟨by kernel_rfl, ?_⟩) ?_
                rotate_left
                · (intro w; go_simp; try with_reducible rfl)
                refine wpAny_take (i := 10) (v := ?_) rfl (by kernel_rfl) (by kernel_rfl) (by kernel_rfl) (fun _ _ _ h => h) (Or.inl ⟨by kernel_rfl, ?_⟩) ?_
                rotate_left
                · (intro w; go_simp; try with_reducible rfl)
                refine wpAny_ready (rs := [4]) (by kernel_rfl) (by simp) ?_
                refine AllReady.cons rfl (fun K hK => ?_) AllReady.nil
                go_simp
                refine hK _ _ ?_
                clear hK K
                refine wpAny_ready (rs := [5]) (by kernel_rfl) (by simp) ?_
                refine AllReady.cons rfl (fun K hK => ?_) AllReady.nil
                go_simp
                refine hK _ _ ?_
                clear hK K
                refine wpAny_ready (rs := [6]) (by kernel_rfl) (by simp) ?_
                refine AllReady.cons rfl (fun K hK => ?_) AllReady.nil
                go_simp
                refine hK _ _ ?_
                clear hK K
                refine wpAny_ready (rs := [11]) (by kernel_rfl) (by simp) ?_
                refine AllReady.cons rfl (fun K hK => ?_) AllReady.nil
                go_simp
                refine hK _ _ ?_
                clear hK K
                refine wpAny_ready (rs := [12]) (by kernel_rfl) (by simp) ?_
                refine AllReady.cons rfl (fun K hK => ?_) AllReady.nil
                go_simp
                go_wp2_with fail
                have hbW : Below w.heap.size w (wr.alloc (.cells #[.int .u8 (cn : Int)] 5)).drew := below_drewN (HB3.out.alloc HB3.out.size _) 1
                refine (HOpen.out _ hbW).mono ?_
                rintro e w4 ⟨hb4, hres⟩
                rw [HR2.out] at hres
                have hb04 : Below w.heap.size w w4 := hbW.trans (hb4.mono hbW.size)
                have hne0 : r.2 ≠ 0 := by rcases HR1.out with h | h <;> rw [h] <;> decide
                rcases hres with ⟨h0, -⟩ | ⟨-, rfl⟩
                · exact absurd h0 hne0
                · obtain ⟨code, hcode⟩ : ∃ c, c = r.2 := ⟨_, rfl⟩
                  rw [← hcode]
                  have hcd : code = 2 ∨ code = 7 := by rw [hcode]; exact HR1.out
                  have HB4 := Lib.hid hb04
                  have HErr : Hid (∀ W n, Below w.heap.size w W → Calls Tryz.prog 7 #[.iface 55 (.int .i64 code), .int .i64 n] W fun e w' => e = .returned (.bool (decide (code = n))) ∧ Below w.heap.size w w') := Lib.hid fun W n b => by
                    have h := Error_any code n W (HG.out.to b)
                    rw [errV_bad (by rw [hcode]; exact hne0)] at h
                    exact h.mono fun e w' ⟨h1, h2⟩ => ⟨h1, b.trans (h2.mono b.size)⟩
                  clear hb4 hb04 hcode hne0 hbW
                  go_wp2_with fail
                  refine wpAny_take (i := 13) (v := ?_) rfl (by kernel_rfl) (by kernel_rfl) (by kernel_rfl) (fun _ _ _ h => h) (Or.inl ⟨by kernel_rfl, ?_⟩) ?_
                  rotate_left
                  · (intro w; go_simp; try with_reducible rfl)
                  refine wpAny_take (i := 14) (v := ?_) rfl (by kernel_rfl) (by kernel_rfl) (by kernel_rfl) (fun _ _ _ h => h) (Or.inl ⟨by kernel_rfl, ?_⟩) ?_
                  rotate_left
                  · (intro w; go_simp; try with_reducible rfl)
                  refine wpAny_take (i := 15) (v := ?_) rfl (by kernel_rfl) (by kernel_rfl) (by kernel_rfl) (fun _ _ _ h => h) (Or.inl ⟨by kernel_rfl, ?_⟩) ?_
                  rotate_left
                  · (intro w; go_simp; try with_reducible rfl)
                  refine wpAny_take (i := 16) (v := ?_) rfl (by kernel_rfl) (by kernel_rfl) (by kernel_rfl) (fun _ _ _ h => h) (Or.inl ⟨by kernel_rfl, ?_⟩) ?_
                  rotate_left
                  · (intro w; go_simp; try with_reducible rfl)
                  refine wpAny_take (i := 17) (v := ?_) rfl (by kernel_rfl) (by kernel_rfl) (by kernel_rfl) (fun _ _ _ h => h) (Or.inl ⟨by kernel_rfl, ?_⟩) ?_
                  rotate_left
                  · (intro w; go_simp; try with_reducible rfl)
                  refine wpAny_take (i := 18) (v := ?_) rfl (by kernel_rfl) (by kernel_rfl) (by kernel_rfl) (fun _ _ _ h => h) (Or.inl ⟨by kernel_rfl, ?_⟩) ?_
                  rotate_left
                  · (intro w; go_simp; try with_reducible rfl)
                  refine wpAny_take (i := 19) (v := ?_) rfl (by kernel_rfl) (by kernel_rfl) (by kernel_rfl) (fun _ _ _ h => h) (Or.inl ⟨by kernel_rfl, ?_⟩) ?_
                  rotate_left
                  · (intro w; go_simp; try with_reducible rfl)
                  refine wpAny_done (by kernel_rfl) ?_ _
                  go_wp2_with fail
                  refine (HErr.out _ 2 HB4.out).mono ?_
                  rintro e w5 ⟨rfl, hb5⟩
                  have HB5 := Lib.hid hb5
                  clear hb5
                  rcases hcd with rfl | rfl
                  · go_wp2_with fail
                    go_ret
                    exact ⟨rfl, HB5.out⟩
                  · have h72 : decide ((7 : Int) = 2) = false := rfl
                    rw [h72]
                    go_wp2_with fail
                    refine (HErr.out _ 7 HB5.out).mono ?_
                    rintro e w6 ⟨rfl, hb6⟩
                    have HB6 := Lib.hid hb6
                    clear hb6
                    go_wp2_with fail
                    go_ret
                    exact ⟨rfl, HB6.out⟩
end Go.Proofs.YtalnepcbaegaeaaGreatDoor
