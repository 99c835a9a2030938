/- WALK: slots.Deep. -/
import Derived.Test.YtdalffmmkhcdaaaSpCheck
import Derived.Test.YtdalffmmkhcdaaaSpPlain
import Derived.Deep.WholeRow
import Derived.Laws.Rows
set_option linter.unusedVariables false
set_option linter.unusedSimpArgs false
namespace Go.Proofs.Ytdalffmmkhcdaaa
open Go Go.RowKit SimPlain HeapPlain SpPlain

theorem zero1001 : (Try.prog.info? 48).map (fun i => (i.zero, i.size)) = some (some (.agg (Array.replicate 1001 (.int .i64 0))), 1001) := by kernel_rfl
theorem zeroRun (w : World) : (zeroValue 48).run Try.prog w = .ok (.agg (Array.replicate 1001 (.int .i64 0))) w := by
  have h := zero1001
  cases hq : Try.prog.info? 48 with
  | none => simp [hq] at h
  | some i =>
    simp [hq] at h
    simp [zeroValue, typeInfo, hq, h.1, Sem.run_bind, Result.andThen]
theorem index_run (xs : List Int) (i : Nat) (hi : i < xs.length) (hx : xs.length = 1001) (W : World) :
    (Instr.index 48 (.agg (xs.map (Value.int .i64)).toArray) (.int .i64 i)).run Try.prog W = .ok (.int .i64 (xs.getD i 0)) W := by
  have hu := Try.underlying48
  have h1 : (0 : Int) ≤ (i : Int) ∧ (i : Int) < 1001 := by omega
  have h2 : i < 1001 := by omega
  simp [Instr.index, run_underlying hu, asIntOf, h1, h2, go_sem, List.getElem?_eq_getElem hi, List.getD_eq_getElem?_getD]
theorem Deep_bad (l : List Ev) (a : Option Addr) (cap : Nat) (w : World) (hx : EvA w a l) (hl : l.length ≤ 9223372036854775807) (hn : ¬ FineS l) :
    Calls Try.prog 5 #[.slice a l.length cap] w fun e w' => (∃ v, e = .returned (.tuple #[.int .i64 0, .iface 59 v])) ∧ Below w.heap.size w w' := by
  have HC := Lib.hid (CheckS_any l a cap w hx hl)
  have HN := Lib.hid hn
  clear hx hn
  go_enter Try.func5, Try.ntmps5
  go_wp2_with fail
  refine HC.out.mono ?_
  rintro e w1 ⟨⟨ev, rfl, hc⟩, hb⟩
  rcases hc with ⟨_, hf⟩ | ⟨⟨v, rfl⟩, _⟩
  · exact absurd hf HN.out
  · go_wp2
    go_ret2
    exact ⟨⟨v, rfl⟩, hb⟩
set_option maxRecDepth 100000 in
set_option maxHeartbeats 4000000 in
theorem Deep_ok (l : List Ev) (a : Option Addr) (cap : Nat) (w : World) (hx : EvA w a l) (hf : FineS l) :
    Calls Try.prog 5 #[.slice a l.length cap] w fun e w' => e = .returned (.tuple #[.int .i64 (mostTo l 1001), .nilIface]) ∧ Below w.heap.size w w' := by
  have hlen := hf.len
  have HC := Lib.hid (CheckS_any l a cap w hx (by omega))
  have HF := Lib.hid hf
  have HX := Lib.hid hx
  clear hx hf
  go_enter Try.func5, Try.ntmps5
  go_wp2_with fail
  refine HC.out.mono ?_
  rintro e w1 ⟨⟨ev, rfl, hc⟩, hb⟩
  rcases hc with ⟨rfl, _⟩ | ⟨_, hf⟩
  rotate_left
  · exact absurd HF.out hf
  have HB := Lib.hid hb
  clear hb
  have hz := zeroRun
  go_upto_region 5 with fail
  have hr0 : Row (w1.alloc (.cells (Array.replicate 1001 (.int .i64 0)) 48)) w1.heap.size 48 (List.replicate 1001 0) := by
    unfold Row
    rw [heap_alloc_new, List.map_replicate, List.toArray_replicate]
  have hb2 : Below w.heap.size w (w1.alloc (.cells (Array.replicate 1001 (.int .i64 0)) 48)) := HB.out.alloc HB.out.size _
  have hC0 := HB.out.size
  generalize w1.alloc (.cells (Array.replicate 1001 (.int .i64 0)) 48) = w2 at hr0 hb2 ⊢
  generalize w1.heap.size = C at hr0 hC0 ⊢
  have HR0 := Lib.hid hr0
  have HB2 := Lib.hid hb2
  clear hr0 hb2 hz
  have HZ0 : Hid (∀ t : Nat, t < 1001 → (List.replicate 1001 (0 : Int)).getD t 0 = turn (l.take 0) t) := Lib.hid fun t ht => by
    rw [List.take_zero]
    show _ = 0
    rw [List.getD_eq_getElem?_getD, List.getElem?_replicate]
    split <;> rfl
  have HL0 : Hid ((List.replicate 1001 (0 : Int)).length = 1001) := Lib.hid (by rw [List.length_replicate])
  generalize List.replicate 1001 (0 : Int) = z0 at HR0 HZ0 HL0
  go_wp2
  go_loopw [19] (fun iv wr => ∃ (k : Nat) (xs : List Int), iv = .int .i64 k ∧ k ≤ l.length ∧ xs.length = 1001 ∧ (∀ t : Nat, t < 1001 → xs.getD t 0 = turn (l.take k) t) ∧ Row wr C 48 xs ∧ Below w.heap.size w wr) (fun iv _ => l.length - (intOf iv).toNat)
  case atStart => exact ⟨0, z0, rfl, Nat.zero_le _, HL0.out, HZ0.out, HR0.out, HB2.out⟩
  case round =>
    obtain ⟨k, xs, rfl, hk, hxs, hturn, hrow, hbel⟩ := hrel
    have HXs := Lib.hid hxs
    have HT := Lib.hid hturn
    have HR := Lib.hid hrow
    have HBe := Lib.hid hbel
    have hCl := hrow.lt
    have nC : ¬ C = wr.heap.size := by omega
    clear hturn
    rcases Nat.lt_or_ge k l.length with hlt | hge
    · obtain ⟨b, off, rfl, hbl, hc⟩ := HX.out.open (by omega)
      obtain ⟨c0, c1⟩ := hc k hlt
      replace c0 := (hbel.cell (p := ⟨b, off + k * 2, none⟩) hbl).trans c0
      replace c1 := (hbel.cell (p := ⟨b, off + k * 2 + 1, none⟩) hbl).trans c1
      have hok := HF.out.all k hlt
      have htk : l.take (k + 1) = l.take k ++ [l.getD k e0] := by
        rw [getD_lt e0 l k hlt, List.take_succ_eq_append_getElem hlt]
      have htb := fun t => turn_bounds (l.take k) t
      have hll : (l.take k).length ≤ 24 := by rw [List.length_take]; omega
      generalize l.getD k e0 = x at c0 c1 hok htk
      obtain ⟨f, hf⟩ : ∃ f : Nat, x.t = f := ⟨x.t.toNat, by unfold okS at hok; omega⟩
      obtain ⟨e, he⟩ : ∃ e : Nat, x.id = e := ⟨x.id.toNat, by unfold okS at hok; omega⟩
      unfold okS at hok
      rw [hf, he] at hok
      rw [hf] at c0
      rw [he] at c1
      have hfe : f < e := by omega
      have he1 : e < 1001 := by omega
      have vf := hrow.cell f (by omega)
      have ve := hrow.cell e (by omega)
      have ff := hrow.free f
      have fe := hrow.free e
      have hvf := htb f
      have hve := htb e
      rw [← HT.out f (by omega)] at hvf
      rw [← HT.out e he1] at hve
      have HRow2 : Hid (∀ o : Obj, Row (((wr.setCell ⟨C, f, none⟩ (.int .i64 (xs.getD f 0 + 1))).setCell ⟨C, e, none⟩ (.int .i64 (xs.getD e 0 - 1))).alloc o) C 48 ((xs.set f (xs.getD f 0 + 1)).set e (xs.getD e 0 - 1))) := Lib.hid fun o => ((hrow.set f _).set e _).alloc o
      have HTurn : Hid (∀ t : Nat, t < 1001 → ((xs.set f (xs.getD f 0 + 1)).set e (xs.getD e 0 - 1)).getD t 0 = turn (l.take (k + 1)) t) := Lib.hid fun t ht => by
        rw [getD_set 0 _ e t _ (by rw [List.length_set]; omega), getD_set 0 xs f t _ (by omega), htk, turn_snoc, hf, he, HT.out f (by omega), HT.out e he1]
        by_cases e1 : t = e
        · subst e1
          rw [if_pos rfl, if_neg (by omega), if_pos rfl]; omega
        · rw [if_neg e1]
          by_cases e2 : t = f
          · subst e2
            rw [if_pos rfl, if_pos rfl, if_neg (by omega)]; omega
          · rw [if_neg e2, if_neg (by omega), if_neg (by omega), HT.out t ht]; omega
      have HLen : Hid (((xs.set f (xs.getD f 0 + 1)).set e (xs.getD e 0 - 1)).length = 1001) := Lib.hid (by rw [List.length_set, List.length_set]; exact hxs)
      generalize (xs.set f (xs.getD f 0 + 1)).set e (xs.getD e 0 - 1) = xs2 at HRow2 HTurn HLen
      generalize xs.getD f 0 = v1 at *
      generalize xs.getD e 0 = v2 at *
      have nfe : ¬ f = e := by omega
      have nef : ¬ e = f := by omega
      have fI : (f : Int) < 1001 := by omega
      have eI : (e : Int) < 1001 := by omega
      have hkI : (k : Int) < (l.length : Int) := by omega
      have hv1 : -24 ≤ v1 ∧ v1 ≤ 24 := by omega
      have hv2 : -24 ≤ v2 ∧ v2 ≤ 24 := by omega
      obtain ⟨p1, p2⟩ := hv1
      obtain ⟨p3, p4⟩ := hv2
      have hCw : w.heap.size ≤ C := hC0
      clear hvf hve htk htb hf he hok hrow hbel hc hll hxs
      go_wp2
      go_roundw
      case rel => exact ⟨k + 1, xs2, by go_num, by omega, HLen.out, HTurn.out, HRow2.out _, Below.alloc ((HBe.out.setCell (p := ⟨C, f, none⟩) hCw _).setCell (p := ⟨C, e, none⟩) hCw _) (by simp only [World.setCell, Array.size_modify]; exact HBe.out.size) _⟩
      case measure => simp only [intOf]; omega
    · obtain rfl : l.length = k := by omega
      have h3 : decide (l.length < l.length) = false := by simp
      clear hxs hrow hbel
      have HAr : Hid (wr.heap[C]? = some (.cells (xs.map (Value.int .i64)).toArray 48 (0, 0))) := HR
      have HIx : Hid (∀ (i : Nat), i < 1001 → ∀ W, (Instr.index 48 (.agg (xs.map (Value.int .i64)).toArray) (.int .i64 i)).run Try.prog W = .ok (.int .i64 (turn l i)) W) := Lib.hid fun i hi W => by
        rw [index_run xs i (by rw [HXs.out]; exact hi) HXs.out W, HT.out i hi, List.take_length]
      have HSz : Hid ((Try.prog.info? 48).map (·.size) = some (xs.map (Value.int .i64)).toArray.size) := Lib.hid (by
        rw [List.size_toArray, List.length_map, HXs.out]; kernel_rfl)
      generalize (xs.map (Value.int .i64)).toArray = ar at HAr HIx HSz
      clear HR HT HXs
      go_upto_region 12 with fail
      go_wp2
      refine wp_load_row 48 (.tmp 5) rfl C rfl _ ar _ _ HAr.out Try.underlying48 rfl HSz.out ?_
      clear HAr HSz
      go_wp2
      go_loopw [8, 9, 37] (fun nv mv iv wx => ∃ i : Nat, nv = .int .i64 (act l ((i : Int) - 1)) ∧ mv = .int .i64 (mostTo l i) ∧ iv = .int .i64 i ∧ i ≤ 1001 ∧ wr = wx) (fun _ _ iv _ => 1001 - (intOf iv).toNat)
      case atStart => 
        refine ⟨0, ?_, rfl, rfl, by omega, rfl⟩
        rw [show ((0 : Nat) : Int) - 1 = -1 from rfl, act_before l (fun e he => ?_) (fun e he => ?_)]
        all_goals
          obtain ⟨i, hi, rfl⟩ := List.mem_iff_getElem.1 he
          have := HF.out.all i hi
          rw [getD_lt e0 l i hi] at this
          unfold okS at this
          omega
      case round =>
        obtain ⟨i, rfl, rfl, rfl, hi, rfl⟩ := hrel
        have ha := act_bounds l ((i : Int) - 1)
        have ha2 := act_bounds l (i : Int)
        have hst := act_step l ((i : Int) - 1)
        rw [Int.sub_add_cancel] at hst
        have ht := turn_bounds l (i : Int)
        have hm0 := mostTo_nonneg l i
        have hm1 := mostTo_le l i
        have hms : mostTo l (i + 1) = max (mostTo l i) (act l i) := rfl
        rcases Nat.lt_or_ge i 1001 with hlt | hge
        · have hix := HIx.out i hlt
          have hltI : (i : Int) < 1001 := by omega
          have HN2 : Hid (act l (((i + 1 : Nat) : Int) - 1) = act l (i : Int)) := Lib.hid (by congr 1; omega)
          have HMs := Lib.hid hms
          generalize act l ((i : Int) - 1) = now at *
          generalize turn l (i : Int) = tn at *
          generalize act l (i : Int) = now2 at *
          generalize mostTo l i = mo at *
          have hst2 : now + tn = now2 := hst.symm
          clear hms hst
          go_wp2
          go_roundw
          case rel => 
            refine ⟨i + 1, by rw [HN2.out], ?_, by go_num, by omega, by first | rfl | trivial⟩
            rw [HMs.out]
            congr 1
            rw [Int.max_def]
            split <;> split <;> omega
          case measure => simp only [intOf]; omega
        · obtain rfl : i = 1001 := by omega
          clear hms hst
          go_wp2
          go_ret2
          exact ⟨rfl, HBe.out⟩
end Go.Proofs.Ytdalffmmkhcdaaa
