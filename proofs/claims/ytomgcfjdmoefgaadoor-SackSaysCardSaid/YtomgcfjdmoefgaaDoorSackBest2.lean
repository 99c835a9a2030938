/- WALK: sack.Best. -/
import Derived.Test.YtomgcfjdmoefgaaDoorSackBest
import Derived.StillTailTactics
namespace Go.Proofs.YtomgcfjdmoefgaaDoor
open Go Go.RowKit SackPlain
open SortPlain (asInts asInts_length)

theorem BestG_no (l : List Gd) (room : Int) (a : Option Addr) (cap : Nat) (w : World) (hx : Goods w a l) (hl : l.length ≤ 9223372036854775807) (h : chkG l room ≠ 0) :
    Calls Tryd.prog 47 #[.slice a l.length cap, .int .i64 room] w fun e w' => e = .returned (.tuple #[.int .i64 0, .slice none 0 0, .iface 81 (.int .i64 (chkG l room))]) ∧ Below w.heap.size w w' := by
  have H := Lib.hid h
  clear h
  go_enter Tryd.func47, Tryd.ntmps47
  go_wp2_with fail
  refine (CheckG_no l room a cap _ hx hl H.out).mono ?_
  rintro e w' ⟨rfl, b⟩
  go_wp2
  go_ret3
  exact ⟨rfl, b⟩

/-- a row of the call's own, grown by append -/
def OwnG (w : World) (B : Nat) (a : Option Addr) (cap : Nat) (xs : List Int) : Prop := w.ownsRow B 3 1 (.slice a xs.length cap) xs.length (xs.map (Value.int .i64))
theorem OwnG.nil (w : World) (B : Nat) : OwnG w B none 0 [] := World.ownsRow_nil _ _ _ _
theorem OwnG.lt {w : World} {B : Nat} {a : Option Addr} {cap : Nat} {xs : List Int} (h : OwnG w B a cap xs) : ∀ k, (Value.slice a xs.length cap).ownBlock = some k → B ≤ k ∧ k < w.heap.size := World.ownsRow.lt h
theorem OwnG.of {w : World} {B : Nat} {v : Value} {n : Nat} {xs : List Int} (h : w.ownsRow B 3 1 v n (xs.map (Value.int .i64))) : ∃ a cap, v = .slice a xs.length cap ∧ OwnG w B a cap xs := by
  have hn : n = xs.length := by have := h.1; simpa using this.symm
  subst hn
  rcases h.2 with ⟨rfl, h0⟩ | ⟨g, cap, cur, rfl, _⟩
  · exact ⟨none, 0, by rw [h0], by unfold OwnG; rw [h0] at h ⊢; exact h⟩
  · exact ⟨_, _, rfl, h⟩
theorem OwnG.alloc {w : World} {B : Nat} {a : Option Addr} {cap : Nat} {xs : List Int} (h : OwnG w B a cap xs) (o : Obj) : OwnG (w.alloc o) B a cap xs := World.ownsRow.alloc h o
theorem OwnG.drewN {w : World} {B : Nat} {a : Option Addr} {cap : Nat} {xs : List Int} (h : OwnG w B a cap xs) (n : Nat) : OwnG (w.drewN n) B a cap xs := h
theorem OwnG.ints {w : World} {B : Nat} {a : Option Addr} {cap : Nat} {xs : List Int} (h : OwnG w B a cap xs) : Ints w a xs := by
  by_cases h0 : 0 < xs.length
  · obtain ⟨g, cap', hv, _, _, hx⟩ := owns_ints h h0
    simp only [Value.slice.injEq] at hv
    rw [hv.1]; exact hx
  · exact .inl (List.eq_nil_of_length_eq_zero (by omega))
theorem intInfo : (Tryd.prog.info? 3).map (fun i => (i.zero, i.size, i.bytes)) = some (some (.int .i64 0), 1, 8) := by kernel_rfl
theorem World.cell?_new1 {w : World} {b : Nat} {v : Value} {t : TypeId} (h : w.heap[b]? = some (.cells #[v] t (0, 0))) : w.cell? ⟨b, 0, none⟩ = some v := by simp [World.cell?, h]
theorem cell_one_new (w : World) (v : Int) (t : TypeId) : ∀ j u, [Value.int .i64 v][j]? = some u → (w.alloc (.cells #[.int .i64 v] t)).cell? ((⟨w.heap.size, 0, none⟩ : Addr).add j) = some u := by
  intro j u hj
  have hb := heap_alloc_new w (.cells #[.int .i64 v] t)
  have h0 : j = 0 := by
    rcases j with _ | j
    · rfl
    · simp at hj
  subst h0
  simp only [List.getElem?_cons_zero, Option.some.injEq] at hj
  subst hj
  have e : (⟨w.heap.size, 0, none⟩ : Addr).add 0 = ⟨w.heap.size, 0, none⟩ := rfl
  rw [e]
  exact World.cell?_new1 hb

theorem ownsRow_drewN {w : World} {B : Nat} {t : TypeId} {sz : Nat} {v : Value} {n : Nat} {xs : List Value} (h : w.ownsRow B t sz v n xs) (q : Nat) : (w.drewN q).ownsRow B t sz v n xs := h
theorem cell_at2 {w : World} {b : Nat} {cur : Array Value} {t : TypeId} (h : w.heap[b]? = some (.cells cur t (0, 0))) (j : Nat) : w.cell? ⟨b, j, none⟩ = cur[j]? := by simp [World.cell?, h]
theorem cell_one_newg (w : World) (v : Int) (t : TypeId) (g : Nat) (hg : g = w.heap.size) : ∀ j u, [Value.int .i64 v][j]? = some u → (w.alloc (.cells #[.int .i64 v] t)).cell? ((⟨g, 0, none⟩ : Addr).add j) = some u := by
  subst hg; exact cell_one_new w v t
/-- what Best tells -/
def BestOut (l : List Gd) (room : Int) (w : World) (e : Ending) (w' : World) : Prop :=
  ∃ a cap, e = .returned (.tuple #[.int .i64 (most l room), .slice a (chosen (told l room) l.length).length cap, .nilIface]) ∧ Ints w' a (asInts (chosen (told l room) l.length)) ∧ Below w.heap.size w w'

set_option maxRecDepth 100000 in
set_option maxHeartbeats 4000000 in
theorem BestG_yes (l : List Gd) (R : Nat) (a : Option Addr) (cap : Nat) (w : World) (hx : Goods w a l) (hf : FineG l R) :
    Calls Tryd.prog 47 #[.slice a l.length cap, .int .i64 R] w fun e w' => BestOut l R w e w' := by
  have hs := hf.ok.short
  have r0 := hf.r0
  have r1 := hf.r1
  have hmk1 : ∀ w, (Instr.makeSlice 22 (.int .i64 ((R : Int) + 1)) (.int .i64 ((R : Int) + 1))).run Tryd.prog w = .ok (.slice (some ⟨w.heap.size, 0, none⟩) (R + 1) (R + 1)) (w.alloc (.cells (madeCells #[.int .i64 0] (R + 1)) 3)) :=
    fun w => run_make_row' (P := Tryd.prog) 22 3 (.int .i64 0) 8 Tryd.underlying22 (by kernel_rfl) rfl .i64 .i64 (R + 1) (by omega) (by omega) w
  have hmk2 : ∀ w, (Instr.makeSlice 48 (.int .i64 ((l.length : Int) + 1)) (.int .i64 ((l.length : Int) + 1))).run Tryd.prog w = .ok (.slice (some ⟨w.heap.size, 0, none⟩) (l.length + 1) (l.length + 1)) (w.alloc (.cells (madeCells #[.slice none 0 0] (l.length + 1)) 22)) :=
    fun w => run_make_row' (P := Tryd.prog) 48 22 (.slice none 0 0) 24 Tryd.underlying48 (by kernel_rfl) rfl .i64 .i64 (l.length + 1) (by omega) (by omega) w
  obtain ⟨i0, hi, hz0, hz1, hz2⟩ := info_parts intInfo
  go_enter Tryd.func47, Tryd.ntmps47
  go_wp2_with fail
  refine (CheckG_yes l R a cap _ hx hf).mono ?_
  rintro e w0 ⟨rfl, b0⟩
  obtain ⟨T, hT⟩ : ∃ T, T = w0.heap.size := ⟨_, rfl⟩
  have hx0 := hx.below b0
  have hTw : w.heap.size ≤ T := by rw [hT]; exact b0.size
  have hTab : ∀ B, Tab l R w T (l.length + 1) B (w0.alloc (.cells (madeCells #[.slice none 0 0] (l.length + 1)) 22)) := fun B => by
    refine ⟨?_, fun k h1 h2 => by omega, fun k h1 h2 => by omega, hTw, b0.alloc b0.size _⟩
    rw [hT]
    exact (World.rowIs_made w0 (.slice none 0 0) (l.length + 1) 22).congr (fun q hq => by rw [if_neg (by omega)])
  have HTab := Lib.hid hTab
  clear hTab
  go_wp2
  rw [← hT]
  have HT := Lib.hid hT
  clear hT
  go_loopw [9] (fun i wr => ∃ (j : Nat) (B : Nat → Nat) (z : Int), i = .int .i64 z ∧ z = (j : Int) - 1 ∧ j ≤ l.length + 1 ∧ Tab l R w T j B wr)
    (fun i _ => (intOf i + 1).toNat)
  case atStart => exact ⟨l.length + 1, fun _ => 0, _, rfl, by omega, Nat.le_refl _, HTab.out _⟩
  case round =>
    obtain ⟨j, B, z, rfl, hz, hj, hTb⟩ := hrel
    rcases j with _ | i
    · obtain rfl : z = -1 := by omega
      have t0 := hTb.t.cell (i := 0) (by omega)
      rw [if_pos (Nat.le_refl _)] at t0
      have t1 := (hTb.rows 0 (Nat.le_refl _) (Nat.zero_le _)).cell (i := R) (by omega)
      have hB0 := (hTb.rows 0 (Nat.le_refl _) (Nat.zero_le _)).lt
      have hTT := hTb.t.lt
      have HTb := Lib.hid hTb
      have eD : D l 0 R = most l R := rfl
      rw [eD] at t1
      clear hTb hz eD
      generalize B 0 = B0 at t0 t1 hB0
      have hRI : (R : Int) < (R : Int) + 1 := by omega
      have hLI : (0 : Int) < (l.length : Int) + 1 := by omega
      have htl := told_length l (R : Int)
      have htd : (told l (R : Int)).drop 0 = told (l.drop 0) ((R : Nat) : Int) := rfl
      have Htd := Lib.hid htd
      have Hmost := Lib.hid (rfl : most l (R : Int) = most l (R : Int))
      clear htd
      go_wp2
      obtain ⟨bs, hbs⟩ : ∃ bs, told l (R : Int) = bs := ⟨_, rfl⟩
      have Hbs := Lib.hid hbs
      rw [hbs] at htl Htd
      clear hbs
      obtain ⟨base, hbase⟩ : ∃ base, base = wr.heap.size := ⟨_, rfl⟩
      have hbsz := HTb.out.bel.size
      rw [← hbase] at hB0 hTT hbsz
      have hlow : ∀ k, k ≤ l.length → B k < base := fun k hk => by rw [hbase]; exact (HTb.out.rows k (Nat.zero_le _) hk).lt
      have Hlow := Lib.hid hlow
      have Hb0 := Lib.hid (Nat.le_of_eq hbase)
      clear hlow t0 t1 hbase
      go_loopw [1, 12, 109] (fun rm st i wr => ∃ (k rn : Nat) (al : Option Addr) (capl : Nat), i = .int .i64 k ∧ k ≤ l.length ∧ rm = .int .i64 rn ∧ rn ≤ R ∧ st = .slice al (asInts (chosen bs k)).length capl ∧ bs.drop k = told (l.drop k) rn ∧ Tab l R w T 0 B wr ∧ OwnG wr base al capl (asInts (chosen bs k)) ∧ base ≤ wr.heap.size)
        (fun _ _ i _ => l.length - (intOf i).toNat)
      case atStart => exact ⟨0, R, none, 0, rfl, Nat.zero_le _, rfl, Nat.le_refl _, rfl, Htd.out, HTb.out, OwnG.nil _ _, Hb0.out⟩
      case round =>
        obtain ⟨k, rn, al, capl, rfl, hk, rfl, hrn, rfl, hdr, hTb, hO, hbw⟩ := hrel
        have hcl := chosen_length bs k
        have hal := asInts_length (chosen bs k)
        rw [hal]
        have hk16 : (chosen bs k).length ≤ 16 := by omega
        rcases Nat.lt_or_ge k l.length with hlt | hge
        · have hst := told_step hlt (rn : Int)
          rw [← hdr] at hst
          have a0 := hTb.t.cell (i := k) (by omega)
          rw [if_pos (Nat.zero_le _)] at a0
          have a1 := hTb.t.cell (i := k + 1) (by omega)
          rw [if_pos (Nat.zero_le _)] at a1
          have a2 := (hTb.rows k (Nat.zero_le _) (by omega)).cell (i := rn) (by omega)
          have a3 := fun p (hp : p < R + 1) => (hTb.rows (k + 1) (Nat.zero_le _) (by omega)).cell hp
          have Ha3 := Lib.hid a3
          obtain ⟨bg, og, rfl, hbg, hcg⟩ := hx.open (by omega)
          obtain ⟨g0', g1'⟩ := (hcg k hlt).below hTb.bel hbg
          have hbgs := hTb.bel.size
          have hwv := wv_range hf.ok k
          have dr1 := D_range hf.ok k rn
          have Hdr := Lib.hid (fun p => D_range hf.ok (k + 1) p)
          have ew : (l.getD k g0).w = wOf l k := rfl
          have ev : (l.getD k g0).v = vOf l k := rfl
          rw [ew] at g0'
          rw [ev] at g1'
          have l0 := hTb.t.lt
          have l1 := (hTb.rows k (Nat.zero_le _) (by omega)).lt
          have l2 := (hTb.rows (k + 1) (Nat.zero_le _) (by omega)).lt
          obtain ⟨wn, hwn⟩ := Int.eq_ofNat_of_zero_le (show 0 ≤ wOf l k by omega)
          rw [hwn] at g0' hwv hst
          generalize hvi : vOf l k = vi at g1' hwv hst
          have HTb2 := Lib.hid hTb
          have HO := Lib.hid hO
          have Hdrop := Lib.hid hdr
          have Hch := Lib.hid (chosen_succ bs k)
          have hkI : (k : Int) < l.length := by omega
          have hkI1 : (k : Int) + 1 < (l.length : Int) + 1 := by omega
          have hkI2 : (k : Int) < (l.length : Int) + 1 := by omega
          have hrI : (rn : Int) < (R : Int) + 1 := by omega
          clear hcg ew ev hTb hO hdr hwn hvi a3
          have eD : D l k rn = most (l.drop k) rn := rfl
          rw [← eD] at hst
          generalize D l k rn = dk at a2 dr1 hst
          clear eD
          rcases Nat.lt_or_ge rn wn with hqw | hqw
          · rw [if_neg (by omega)] at hst
            have hh := drop_head hst
            have Hh := Lib.hid hh
            clear hst hh
            have hqwI : (rn : Int) < (wn : Int) := by omega
            have hqwD : decide (wn ≤ rn) = false := by simp; omega
            have hqwD2 : decide ((wn : Int) ≤ (rn : Int)) = false := by simp; omega
            go_wp2
            go_quiet (fail)
            go_wp2
            go_roundw
            case rel =>
              refine ⟨k + 1, rn, al, capl, by go_num, by omega, rfl, by omega, by rw [asInts_length, Hch.out, Hh.out.1]; simp, Hh.out.2, (HTb2.out.alloc _).drewN _, ?_, by simp; omega⟩
              rw [Hch.out, Hh.out.1]
              simpa using (HO.out.alloc (.cells #[.int .i64 wn, .int .i64 vi] 100)).drewN nq
            case measure => simp only [intOf]; omega
          · have a4 := Ha3.out (rn - wn) (by omega)
            have dr2 := Hdr.out (rn - wn)
            have eD2 : D l (k + 1) (rn - wn) = most (l.drop (k + 1)) ((rn : Int) - (wn : Int)) := by unfold D; congr 1; omega
            rw [← eD2] at hst
            generalize D l (k + 1) (rn - wn) = d2 at a4 dr2 hst
            have hqwI : (wn : Int) ≤ (rn : Int) := by omega
            clear eD2
            by_cases he : d2 + vi = dk
            · rw [if_pos ⟨hqwI, he⟩] at hst
              have hh := drop_head hst
              have Hh := Lib.hid hh
              have heB : (d2 + vi == dk) = true := by rw [beq_iff_eq]; exact he
              have hpost : Hid (∀ nq v2 w2, World.ownsRow w2 base 3 1 v2 ((chosen bs k).length + 1) ((asInts (chosen bs k)).map (Value.int .i64) ++ [Value.int .i64 k]) → (((wr.alloc (.cells #[.int .i64 wn, .int .i64 vi] 100)).drewN nq).alloc (.cells #[.int .i64 k] 3)).grownBy w2 (Value.slice al (chosen bs k).length capl).ownBlock →
                  ∃ a2 cap2, v2 = .slice a2 (chosen bs (k + 1)).length cap2 ∧ OwnG w2 base a2 cap2 (asInts (chosen bs (k + 1))) ∧ Tab l R w T 0 B w2 ∧ w2.cell? ⟨wr.heap.size, 0, none⟩ = some (.int .i64 wn) ∧ base ≤ w2.heap.size) := Lib.hid (by
                intro nq v2 w2 own2 gr2
                have ech : chosen bs (k + 1) = chosen bs k ++ [k] := by rw [Hch.out, Hh.out.1]; rfl
                have emap : (asInts (chosen bs k)).map (Value.int .i64) ++ [Value.int .i64 k] = (asInts (chosen bs (k + 1))).map (Value.int .i64) := by rw [ech]; simp [asInts]
                rw [emap] at own2
                obtain ⟨a2, cap2, rfl, O2⟩ := OwnG.of own2
                have hT2 : Tab l R w T 0 B (((wr.alloc (.cells #[.int .i64 wn, .int .i64 vi] 100)).drewN nq).alloc (.cells #[.int .i64 k] 3)) := ((HTb2.out.alloc _).drewN nq).alloc _
                have hblk : ∀ kk, (Value.slice al (chosen bs k).length capl).ownBlock = some kk → base ≤ kk ∧ kk < wr.heap.size := fun kk e => HO.out.lt kk (by rw [asInts_length]; exact e)
                refine ⟨a2, cap2, by rw [asInts_length], O2, hT2.grown gr2 (fun kk e => ?_), ?_, Nat.le_trans hbw (Nat.le_trans (by simp; omega) gr2.size)⟩
                · have h1 := hblk kk e
                  exact ⟨by omega, by omega, fun i _ h2 => by have := Hlow.out i h2; omega⟩
                · have gb : (((wr.alloc (.cells #[.int .i64 wn, .int .i64 vi] 100)).drewN nq).alloc (.cells #[.int .i64 k] 3)).heap[wr.heap.size]? = some (.cells #[.int .i64 wn, .int .i64 vi] 100 (0, 0)) := by
                    rw [Below.heap_alloc _ _ _ (by simp)]
                    exact heap_alloc_new wr _
                  rw [World.cell?_of_block (a := ⟨wr.heap.size, 0, none⟩) (gr2.block wr.heap.size (by simp; omega) (fun e => by have := hblk _ e.symm; omega))]
                  exact cell_at2 gb 0)
              have hown : Hid (wr.ownsRow base 3 1 (.slice al (chosen bs k).length capl) (chosen bs k).length ((asInts (chosen bs k)).map (Value.int .i64))) := Lib.hid (by
                have h := HO.out
                unfold OwnG at h
                rw [asInts_length] at h
                exact h)
              clear hst hh he
              go_wp2
              go_quiet (fail)
              go_wp2_with (at_builtin; refine wpList_append_own _ rfl _ _ 22 rfl base 3 i0 (.int .i64 0) 1 8 Tryd.underlying22 hi hz0 hz1 hz2 rfl (by decide) (.slice al (chosen bs k).length capl) (chosen bs k).length ((asInts (chosen bs k)).map (Value.int .i64)) rfl (World.ownsRow.alloc (ownsRow_drewN (World.ownsRow.alloc hown.out (.cells #[.int .i64 wn, .int .i64 vi] 100)) _) (.cells #[.int .i64 k] 3)) ⟨_, 0, none⟩ 1 1 [.int .i64 k] rfl rfl (cell_one_newg _ _ _ _ (by simp)) (by simp [Value.oneCell']) (by unfold maxLen; omega) (by omega) (by simp; omega) ?_; intro v2 w2 own2 gr2 _; obtain ⟨a2, cap2, rfl, HO2, HT2, c5, hbw2⟩ := hpost.out _ v2 w2 own2 gr2)
              go_roundw
              case rel =>
                refine ⟨k + 1, rn - wn, a2, cap2, by go_num, by omega, by congr 1; omega, by omega, by rw [asInts_length], ?_, HT2, HO2, hbw2⟩
                rw [Hh.out.2]
                congr 1
                omega
              case measure => simp only [intOf]; omega
            · rw [if_neg (fun h => he h.2)] at hst
              have hh := drop_head hst
              have Hh := Lib.hid hh
              have heB : (d2 + vi == dk) = false := by rw [beq_eq_false_iff_ne]; exact he
              clear hst hh he
              go_wp2
              go_quiet (fail)
              go_wp2
              go_roundw
              case rel =>
                refine ⟨k + 1, rn, al, capl, by go_num, by omega, rfl, by omega, by rw [asInts_length, Hch.out, Hh.out.1]; simp, Hh.out.2, (HTb2.out.alloc _).drewN _, ?_, by simp; omega⟩
                rw [Hch.out, Hh.out.1]
                simpa using (HO.out.alloc (.cells #[.int .i64 wn, .int .i64 vi] 100)).drewN nq
              case measure => simp only [intOf]; omega
        · obtain rfl : l.length = k := by omega
          have h3 : decide (l.length < l.length) = false := by simp
          have HO := Lib.hid hO
          have HTb2 := Lib.hid hTb
          clear hO hTb hdr
          go_wp2
          go_ret3
          refine ⟨al, capl, ?_, ?_, HTb2.out.bel⟩
          · rw [Hbs.out]; rfl
          · rw [Hbs.out]; exact HO.out.ints
    · obtain rfl : z = (i : Int) := by omega
      have hil : i ≤ l.length := by omega
      have hrow := hTb.row hil
      have hTl := hTb.t.lt
      have hTf := hTb.t.frozen i
      have hTc := hTb.t.cell (i := i) (by omega)
      rw [if_neg (by omega)] at hTc
      have hbel0 := hTb.bel
      have HTb := Lib.hid hTb
      obtain ⟨B', hB'⟩ : ∃ B' : Nat → Nat, B' = fun k => if k = i then wr.heap.size else B k := ⟨_, rfl⟩
      rw [← hB'] at hrow
      have hBi : wr.heap.size = B' i := by rw [hB']; simp
      have Hrow := Lib.hid hrow
      have HBi := Lib.hid hBi
      have hiI : (i : Int) < (l.length : Int) + 1 := by omega
      clear hTb hz hB' hrow hBi
      go_wp2
      go_loopw [43] (fun r wx => ∃ q : Nat, r = .int .i64 q ∧ q ≤ R + 1 ∧ TabAt l R w T i B' q wx) (fun r _ => (R + 1) - (intOf r).toNat)
      case atStart => exact ⟨0, rfl, Nat.zero_le _, Hrow.out⟩
      case round =>
        obtain ⟨q, rfl, hq, hA⟩ := hrel
        rcases Nat.lt_or_ge q (R + 1) with hqR | hqR
        · have hqI : (q : Int) < (R : Int) + 1 := by omega
          rcases Nat.lt_or_ge i l.length with hin | hin
          · have hne : ((i : Int) == (l.length : Int)) = false := by rw [beq_eq_false_iff_ne]; omega
            have a0 := hA.t.cell (i := i) (by omega)
            rw [if_pos (Nat.le_refl _)] at a0
            have a1 := hA.t.cell (i := i + 1) (by omega)
            rw [if_pos (by omega)] at a1
            have hr1 := hA.rows (i + 1) (by omega) (by omega)
            have a2 := hr1.1.cell hqR
            have a3 := hA.row.cell hqR
            have f3 := hA.row.frozen q
            have n1 := (hA.place i (Nat.le_refl _) hil).2
            have n2 := (hA.place (i + 1) (by omega) (by omega)).2
            have n3 := hr1.2
            have s1 := hA.t.lt
            have s2 := hA.row.lt
            have s3 := hr1.1.lt
            obtain ⟨bg, og, rfl, hbg, hcg⟩ := hx.open (by omega)
            obtain ⟨g0', g1'⟩ := (hcg i hin).below hA.bel hbg
            have hbgs := hA.bel.size
            have hwv := wv_range hf.ok i
            have dr := D_range hf.ok (i + 1) q
            have dno := fun h => D_no (l := l) (k := i) (q := q) hin h
            have dyes := fun p h1 h2 => D_yes (l := l) (k := i) (q := q) (p := p) hin h1 h2
            have ew : (l.getD i g0).w = wOf l i := rfl
            have ev : (l.getD i g0).v = vOf l i := rfl
            rw [ew] at g0'
            rw [ev] at g1'
            have p1 := (hA.place i (Nat.le_refl _) hil).1
            have p2 := (hA.place (i + 1) (by omega) (by omega)).1
            have p0 := hA.tw
            have q1 : ¬ bg = B' i := by omega
            have q2 : ¬ bg = T := by omega
            have HA := Lib.hid hA
            have Hlow := Lib.hid (fun p (hp : p < R + 1) => hr1.1.cell hp)
            have Hdr := Lib.hid (fun p => D_range hf.ok (i + 1) p)
            obtain ⟨ov, hov⟩ : ∃ ov, wr.cell? ⟨B' i, q, none⟩ = some ov := ⟨_, a3⟩
            obtain ⟨wn, hwn⟩ := Int.eq_ofNat_of_zero_le (show 0 ≤ wOf l i by omega)
            rw [hwn] at g0' hwv dno dyes
            have Hwn := Lib.hid hwn
            clear hcg ew ev hA hr1 a3 hwn
            have Hdno := Lib.hid dno
            have Hdyes := Lib.hid dyes
            clear dno dyes
            generalize hd1 : D l (i + 1) q = d1 at a2 dr
            have Hd1 := Lib.hid hd1
            generalize hvi : vOf l i = vi at g1' hwv
            have Hvi := Lib.hid hvi
            clear hd1 hvi
            have HBi : Hid (B' i = B' i) := Lib.hid rfl
            obtain ⟨bi, hbi⟩ : ∃ bi, B' i = bi := ⟨_, rfl⟩
            obtain ⟨bn, hbn⟩ : ∃ bn, B' (i + 1) = bn := ⟨_, rfl⟩
            have Hbi := Lib.hid hbi
            have Hbn := Lib.hid hbn
            rw [hbi] at a0 f3 n1 n3 s2 q1 hov p1
            rw [hbn] at a1 a2 n2 n3 s3 p2
            clear hbi hbn HBi
            rcases Nat.lt_or_ge q wn with hqw | hqw
            · have hqwI : (q : Int) < (wn : Int) := by omega
              go_wp2
              go_region
              go_wp2
              go_roundw
              case rel =>
                refine ⟨q + 1, by go_num, by omega, ?_⟩
                have hM := (((HA.out.mid hil d1).alloc (.cells #[.int .i64 wn, .int .i64 vi] 100)).drew).next (by rw [Hdno.out (by omega), Hd1.out])
                rw [Hbi.out] at hM
                exact hM
              case measure => simp only [intOf]; omega
            · have a4 := Hlow.out (q - wn) (by omega)
              rw [Hbn.out] at a4
              have dr2 := Hdr.out (q - wn)
              have hD := Hdyes.out (q - wn) (by omega) (by omega)
              rw [Hd1.out, Hvi.out] at hD
              generalize hd2 : D l (i + 1) (q - wn) = d2 at a4 dr2 hD
              have HD := Lib.hid hD
              have Hd2 := Lib.hid hd2
              clear hD hd2
              have hqwI : (wn : Int) ≤ (q : Int) := by omega
              rcases Int.lt_or_le d1 (d2 + vi) with hmx | hmx
              all_goals
                have hM := ((HA.out.mid hil d1).alloc (.cells #[.int .i64 wn, .int .i64 vi] 100)).drew
                rw [Hbi.out] at hM
                go_wp2
                go_region
                go_wp2
                obtain ⟨w2, hw2⟩ : ∃ w2, w2 = ((wr.setCell ⟨bi, q, none⟩ (.int .i64 d1)).alloc (.cells #[.int .i64 wn, .int .i64 vi] 100)).drew := ⟨_, rfl⟩
                rw [← hw2] at hM ⊢
                have gb : w2.heap[wr.heap.size]? = some (.cells #[.int .i64 wn, .int .i64 vi] 100 (0, 0)) := by
                  rw [hw2]
                  have := heap_alloc_new (wr.setCell ⟨bi, q, none⟩ (.int .i64 d1)) (.cells #[.int .i64 wn, .int .i64 vi] 100)
                  rw [show (wr.setCell ⟨bi, q, none⟩ (.int .i64 d1)).heap.size = wr.heap.size by simp [World.setCell]] at this
                  exact this
                have x5 : w2.cell? ⟨wr.heap.size, 0, none⟩ = some (.int .i64 wn) := cell_at2 gb 0
                have x6 : w2.cell? ⟨wr.heap.size, 1, none⟩ = some (.int .i64 vi) := cell_at2 gb 1
                have x0 := hM.t.cell (i := i) (by omega)
                rw [if_pos (Nat.le_refl _), Hbi.out] at x0
                have x1 := hM.t.cell (i := i + 1) (by omega)
                rw [if_pos (by omega), Hbn.out] at x1
                have x2 := (hM.rows (i + 1) (by omega) (by omega)).1.cell hqR
                rw [Hd1.out, Hbn.out] at x2
                have x4 := (hM.rows (i + 1) (by omega) (by omega)).1.cell (i := q - wn) (by omega)
                rw [Hd2.out, Hbn.out] at x4
                have x3 : w2.cell? ⟨bi, q, none⟩ = some (.int .i64 d1) := by
                  have := hM.row.cell hqR
                  rw [Hbi.out, if_neg (Nat.lt_irrefl _), if_pos rfl] at this
                  exact this
                have x7 := hM.row.frozen q
                rw [Hbi.out] at x7
                have HM := Lib.hid hM
                clear hM hw2 gb a0 a1 a2 a4 f3 hov g0' g1' s1 s2 s3 q1 q2
                have y1 : IntKind.i64.wrap ((i : Int) + 1) = (i : Int) + 1 := by rw [IntKind.wrap_i64]; omega
                have y2 : (0 : Int) ≤ (i : Int) + 1 := by omega
                have y3 : (i : Int) + 1 < (l.length : Int) + 1 := by omega
                have y4 : IntKind.i64.wrap ((q : Int) - (wn : Int)) = (q : Int) - (wn : Int) := by rw [IntKind.wrap_i64]; omega
                have y5 : (0 : Int) ≤ (q : Int) - (wn : Int) := by omega
                have y6 : (q : Int) - (wn : Int) < (R : Int) + 1 := by omega
                have y7 : IntKind.i64.wrap (d2 + vi) = d2 + vi := by rw [IntKind.wrap_i64]; omega
                go_still_tail 28, (by kernel_rfl)
                change wpList _ _ _ _ _ w2.drew
                go_wp2
                go_roundw
                case rel =>
                  refine ⟨q + 1, by go_num, by omega, ?_⟩
                  have hM2 := ((HM.out.mid hil (max d1 (d2 + vi))).drew).next (by rw [HD.out])
                  rw [Hbi.out] at hM2
                  first
                    | (rw [show max d1 (d2 + vi) = d2 + vi by omega] at hM2; exact hM2)
                    | (rw [show max d1 (d2 + vi) = d1 by omega] at hM2; exact hM2)
                case measure => simp only [intOf]; omega
          · obtain rfl : l.length = i := by omega
            have hne : ((l.length : Int) == (l.length : Int)) = true := by simp
            have HA := Lib.hid hA
            clear hA
            go_wp2
            go_roundw
            case rel => exact ⟨q + 1, by go_num, by omega, HA.out.zero⟩
            case measure => simp only [intOf]; omega
        · obtain rfl : q = R + 1 := by omega
          have h3 : ¬ ((R : Int) + 1 < (R : Int) + 1) := by omega
          have HA := Lib.hid hA.full
          clear hA
          go_wp2
          go_roundw
          case rel => exact ⟨i, B', _, rfl, by omega, by omega, HA.out⟩
          case measure => simp only [intOf]; omega
end Go.Proofs.YtomgcfjdmoefgaaDoor
