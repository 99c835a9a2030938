/- WALKS: bins.Falling; the law BinsTwice. -/
import Derived.Test.YtdkknigicpbgcaaBinsMany
import Derived.Test.YtdkknigicpbgcaaBinsHalf
import Derived.Test.YtdkknigicpbgcaaBinsSort
import Derived.Test.YtdkknigicpbgcaaBinsTwicePlain
namespace Go.Proofs.Ytdkknigicpbgcaa
open Go Go.RowKit BinsPlain PackPlain SortPlain TwicePlain

theorem Falling_no (sizes : List Int) (room : Int) (a : Option Addr) (cap : Nat) (w : World) (hx : Ints w a sizes) (hl : sizes.length ≤ 9223372036854775807) (h : chk sizes room ≠ 0) :
    Calls Try.prog 10 #[.slice a sizes.length cap, .int .i64 room] w fun e w' => e = .returned (.tuple #[.slice none 0 0, .iface 36 (.int .i64 (chk sizes room))]) ∧ Below w.heap.size w w' := by
  have H := Lib.hid h
  clear h
  have hx1 := hx.below ((Below.refl w.heap.size w).alloc (Nat.le_refl _) (.cells #[.slice a sizes.length cap] 22))
  go_enter Try.func10, Try.ntmps10
  go_wp2_with (go_at_call 12; refine (check_no sizes room a cap _ hx1 hl H.out).mono ?_; rintro e w' ⟨rfl, rfl⟩)
  go_ret2
  exact ⟨rfl, (Below.refl _ _).alloc (Nat.le_refl _) _⟩

/-- what Falling makes -/
def FallRes (sizes : List Int) (room : Int) (w : World) (e : Ending) (w' : World) : Prop := ∃ ord, Falls sizes sizes.length ord ∧ NewIntsOk 3 (fillL sizes room ord) w e w'
set_option maxHeartbeats 1000000 in
theorem Falling_yes (sizes : List Int) (room : Int) (a : Option Addr) (cap : Nat) (w : World) (hx : Ints w a sizes) (hf : Fine sizes room) :
    Calls Try.prog 10 #[.slice a sizes.length cap, .int .i64 room] w fun e w' => FallRes sizes room w e w' := by
  have hs := hf.short
  have hc := fine_chk hf
  have Hc := Lib.hid hc
  clear hc
  have bw : Below w.heap.size w (w.alloc (.cells #[.slice a sizes.length cap] 22)) := (Below.refl _ _).alloc (Nat.le_refl _) _
  have hx1 := hx.below bw
  have hb : (w.alloc (.cells #[.slice a sizes.length cap] 22)).heap[w.heap.size]? = some (.cells #[.slice a sizes.length cap] 22 (0, 0)) := heap_alloc_new w _
  obtain ⟨wa, hwa⟩ : ∃ wa, wa = w.alloc (.cells #[.slice a sizes.length cap] 22) := ⟨_, rfl⟩
  have hwsz : wa.heap.size = w.heap.size + 1 := by rw [hwa]; simp
  rw [← hwa] at bw hx1 hb
  have c0 : wa.cell? ⟨w.heap.size, 0, none⟩ = some (.slice a sizes.length cap) := cell_of_one hb
  have hmk := fun w => run_make_row' (P := Try.prog) 22 3 (.int .i64 0) 8 Try.underlying22 (by kernel_rfl) rfl .i64 .i64 sizes.length (by omega) (by omega) w
  go_enter Try.func10, Try.ntmps10
  go_wp2_with fail
  rw [← hwa]
  refine (check_yes sizes room a cap _ hx1 (by omega) Hc.out).mono ?_
  rintro e w' ⟨rfl, rfl⟩
  have Hwa := Lib.hid hwa
  clear hwa hb
  have Hsz := Lib.hid hwsz
  clear hwsz
  go_wp2
  go_loopw [20] (fun i wr => ∃ k : Nat, i = .int .i64 k ∧ k ≤ sizes.length ∧ Row wr wa.heap.size 3 (nums k ++ List.replicate (sizes.length - k) 0) ∧ Below wa.heap.size wa wr)
    (fun i _ => sizes.length - (intOf i).toNat)
  case atStart =>
    refine ⟨0, rfl, Nat.zero_le _, ?_, (Below.refl _ _).alloc (Nat.le_refl _) _⟩
    have := Row.made wa 3 sizes.length
    simpa [nums] using this
  case round =>
    obtain ⟨k, rfl, hk, hrow, hbel⟩ := hrel
    rcases Nat.lt_or_ge k sizes.length with hlt | hge
    · obtain ⟨r, hr⟩ : ∃ r, sizes.length - k = r + 1 := ⟨sizes.length - k - 1, by omega⟩
      rw [hr] at hrow
      have hcell := hrow.cell k (by rw [List.length_append, nums_length]; simp)
      obtain ⟨ov, hcell⟩ : ∃ ov, wr.cell? ⟨wa.heap.size, k, none⟩ = some ov := ⟨_, hcell⟩
      have hfr := hrow.free k
      have Hr := Lib.hid hr
      clear hr
      go_wp2
      go_roundw
      case rel =>
        refine ⟨k + 1, by go_num, by omega, ?_, hbel.setCell (Nat.le_refl _) _⟩
        rw [show sizes.length - (k + 1) = r by have := Hr.out; omega, ← set_nums]
        exact hrow.set k _
      case measure => simp only [intOf]; omega
    · have hkn : k = sizes.length := by omega
      have h3 : ((sizes.length : Nat) : Int) ≤ (k : Int) := by omega
      have hrow' : Row wr wa.heap.size 3 (asInts (List.range sizes.length)) := by rw [hkn] at hrow; simpa [nums, asInts] using hrow
      clear hkn hrow
      have hclo : ∀ w', Below wa.heap.size wr w' → CloAt sizes a cap w.heap.size w' := fun w' hb' => by
        have hb2 : Below wa.heap.size wa w' := hbel.trans hb'
        have hsz := Hsz.out
        refine ⟨hx.below (bw.trans (hb2.mono (by omega))), ?_⟩
        rw [hb2.cell (p := ⟨w.heap.size, 0, none⟩) (by show w.heap.size < wa.heap.size; omega)]; exact c0
      have S := sortStable_any sizes a cap w.heap.size wa.heap.size wr hs hclo hrow'
      have Hclo := Lib.hid hclo
      clear hclo
      have cr : wr.cell? ⟨w.heap.size, 0, none⟩ = some (.slice a sizes.length cap) := (Hclo.out wr (Below.refl _ _)).2
      go_wp2_with fail
      refine S.mono ?_
      rintro e w2 ⟨ord, rfl, hF, h4, h5⟩
      have c2 : w2.cell? ⟨w.heap.size, 0, none⟩ = some (.slice a sizes.length cap) := (Hclo.out w2 h5).2
      have hx2 := (Hclo.out w2 h5).1
      have b2 : Below w.heap.size w w2 := bw.trans ((hbel.trans h5).mono (by have := Hsz.out; omega))
      have F := fill_any sizes a cap room ord (some ⟨wa.heap.size, 0, none⟩) sizes.length w2 hx2 hf h4.ints (by rw [hF.length]; exact hs) hF.lt
      rw [hF.length] at F
      have HF := Lib.hid hF
      clear hF S
      go_wp2_with fail
      refine F.mono ?_
      clear F
      rintro e w3 ⟨g2, rfl, h6, h7, h8⟩
      go_wp2
      go_ret2
      exact ⟨ord, HF.out, g2, rfl, by have := b2.size; omega, h7, b2.trans (h8.mono b2.size)⟩
theorem fillL_length (sizes : List Int) (room : Int) (ord : List Nat) : (fillL sizes room ord).length = sizes.length := by unfold fillL; rw [fillS_length]; simp

set_option maxRecDepth 100000 in
set_option maxHeartbeats 1000000 in
theorem BinsTwice_walk (sizes ins : List Int) (room : Int) (a b : Option Addr) (cap cap' : Nat) (w : World) (hx : Ints w a sizes) (hy : Ints w b ins) (hl : sizes.length ≤ 9223372036854775807) (hl' : ins.length ≤ 9223372036854775807) :
    Calls Try.prog 5 #[.slice a sizes.length cap, .int .i64 room, .slice b ins.length cap'] w fun e w' => e = .returned (.bool true) ∧ Below w.heap.size w w' := by
  by_cases hc : chk sizes room = 0
  · have hf := chk_fine hc
    clear hc
    have hs := hf.short
    go_enter Try.func5, Try.ntmps5
    go_wp2_with fail
    refine (binsFact_any _).mono ?_
    rintro e w0 ⟨rfl, b0⟩
    go_wp2_with fail
    refine (First_yes sizes room a cap _ (hx.below b0) hf).mono ?_
    rintro e w1 ⟨g, rfl, hg, hrow, b1⟩
    have b01 := b0.trans (b1.mono b0.size)
    go_wp2_with fail
    refine (Falling_yes sizes room a cap _ (hx.below b01) hf).mono ?_
    rintro e w2 ⟨ord, hF, g2, rfl, hg2, hrow2, b2⟩
    have b02 := b01.trans (b2.mono b01.size)
    have hrow' := hrow.below b2 hrow.lt
    have hX := fill_facts sizes room (List.range sizes.length) (List.Perm.refl _) hf.all hs
    change FillFacts sizes room (firstL sizes room) _ at hX
    have hY := fill_facts sizes room ord hF.perm hf.all hs
    have hxl := firstL_length sizes room
    have hyl := fillL_length sizes room ord
    clear hF hrow
    generalize boxes sizes room (List.range sizes.length) = n at hX
    generalize boxes sizes room ord = m at hY
    generalize firstL sizes room = x at hX hxl hrow' ⊢
    generalize fillL sizes room ord = y at hY hyl hrow2 ⊢
    rw [hxl, hyl]
    have M1 := Many_any sizes x room a (some ⟨g, 0, none⟩) cap sizes.length w2 (hx.below b02) hrow'.ints hf (by omega)
    rw [hxl] at M1
    go_wp2_with fail
    refine M1.mono ?_
    rintro e w3 ⟨n', er, rfl, hr, b3⟩
    have he := hr.good.2 hX.packs
    subst he
    have hn : n' = (n : Int) := by rw [hr.many rfl, hX.count]
    subst hn
    have b03 := b02.trans (b3.mono b02.size)
    have hrow2' := hrow2.below b3 hrow2.lt
    clear hr M1
    rw [errV_ok]
    have M2 := Many_any sizes y room a (some ⟨g2, 0, none⟩) cap sizes.length w3 (hx.below b03) hrow2'.ints hf (by omega)
    rw [hyl] at M2
    go_wp2_with fail
    refine M2.mono ?_
    rintro e w4 ⟨m', er, rfl, hr, b4⟩
    have he := hr.good.2 hY.packs
    subst he
    have hm : m' = (m : Int) := by rw [hr.many rfl, hY.count]
    subst hm
    have b04 := b03.trans (b4.mono b03.size)
    clear hr M2 hxl hyl
    rw [errV_ok]
    have HX := Lib.hid hX
    have HY := Lib.hid hY
    clear hX hY
    go_wp2_with fail
    refine (Many_any sizes ins room a b cap cap' w4 (hx.below b04) (hy.below b04) hf hl').mono ?_
    rintro e w5 ⟨k, er, rfl, hr, b5⟩
    have b05 := b04.trans (b5.mono b04.size)
    by_cases he : er = 0
    · subst he
      have hk := hr.many rfl
      have hP := hr.good.1 rfl
      have hkl := keysA_length ins sizes.length
      obtain ⟨t1, t2⟩ := twice_law sizes room x n HX.out hf.all hf.r1 ins hP
      obtain ⟨t3, t4⟩ := twice_law sizes room y m HY.out hf.all hf.r1 ins hP
      have hn16 := HX.out.small
      have hm16 := HY.out.small
      generalize (keysA ins sizes.length).length = kk at hk hkl t1 t2 t3 t4
      subst hk
      clear hr hP HX HY
      rw [errV_ok]
      rcases Nat.eq_zero_or_pos kk with hz | hz
      · have e1 := t1 hz
        have e2 := t3 hz
        clear t1 t2 t3 t4 hn16 hm16 hkl
        subst hz
        subst e1
        subst e2
        go_wp2
        go_ret
        exact ⟨rfl, b05⟩
      · have e1 : (n : Int) < 2 * (kk : Int) := by have := t2 hz; omega
        have e2 : (m : Int) < 2 * (kk : Int) := by have := t4 hz; omega
        have e3 : ((kk : Int) == 0) = false := by rw [beq_eq_false_iff_ne]; omega
        have e4 : (kk : Int) ≤ 16 := by omega
        clear t1 t2 t3 t4 hn16 hm16 hkl
        go_wp2
        go_ret
        exact ⟨rfl, b05⟩
    · rw [errV_bad he]
      clear hr HX HY
      go_wp2
      go_ret
      exact ⟨rfl, b05⟩
  · have Hc := Lib.hid hc
    clear hc
    go_enter Try.func5, Try.ntmps5
    go_wp2_with fail
    refine (binsFact_any _).mono ?_
    rintro e w0 ⟨rfl, b0⟩
    go_wp2_with fail
    refine (First_no sizes room a cap _ (hx.below b0) hl Hc.out).mono ?_
    rintro e w1 ⟨rfl, rfl⟩
    go_wp2_with fail
    refine (Falling_no sizes room a cap _ (hx.below b0) hl Hc.out).mono ?_
    rintro e w2 ⟨rfl, b2⟩
    go_wp2
    go_ret
    exact ⟨rfl, b0.trans (b2.mono b0.size)⟩
end Go.Proofs.Ytdkknigicpbgcaa
