/- WALK: the law SimDrop. -/
import Derived.Test.YtcdmbbnenljnlaaEvOpen
namespace Go.Proofs.Ytcdmbbnenljnlaa
open Go Go.RowKit SimPlain HeapPlain

theorem DropB {w0 w : World} {S : Nat} {q : List Ev} {now seq : Int} (id : Int) (h : SimB w0 w S q now seq) :
    Calls Try.prog 14 #[.pointer (some ⟨S, 0, none⟩), .int .i64 id] w fun e w' => e = .returned (.int .i64 (q.filter (sameId id)).length) ∧ SimB w0 w' S (q.filter (offId id)) now seq := by
  obtain ⟨F, s, b⟩ := h
  refine (Drop_any S _ F q now seq id w b.size s).mono ?_
  rintro e w' ⟨rfl, s', o⟩
  exact ⟨rfl, _, s', b.trans (o.below b.size (fun k hk => (s.fb k hk).1))⟩
theorem UntilB {w0 w : World} {S : Nat} {q : List Ev} {now seq T : Int} (h : SimB w0 w S q now seq) (hc : untilC now T = 0) :
    Calls Try.prog 12 #[.pointer (some ⟨S, 0, none⟩), .int .i64 T] w fun e w' => ∃ ao capo, e = .returned (.tuple #[.slice ao (q.takeWhile (tillB T)).length capo, .nilIface]) ∧ EtOwn w' w.heap.size ao capo (q.takeWhile (tillB T)) ∧ SimB w0 w' S (q.dropWhile (tillB T)) T seq := by
  obtain ⟨F, s, b⟩ := h
  refine (Until_yes S _ F q now seq T w s hc).mono ?_
  rintro e w' ⟨ao, capo, rfl, ho, s', o⟩
  exact ⟨ao, capo, rfl, ho, F, s', b.trans (o.below b.size (fun k hk => (s.fb k hk).1))⟩
theorem till_top {q : List Ev} {now seq : Int} (h : Fine q now seq) : q.takeWhile (tillB 1000000) = q ∧ q.dropWhile (tillB 1000000) = [] := by
  have := till_split (pre := q) (rest := []) (T := 1000000) (fun e he => (h.range e he).2.1) (by simp)
  simpa using this
theorem count_ins (id : Int) (x : Ev) (q : List Ev) (p : Ev → Bool) : ((ins x q).filter p).length = (q.filter p).length + if p x = true then 1 else 0 := by
  rw [((ins_perm x q).filter p).length_eq]
  by_cases h : p x = true
  · rw [List.filter_cons_of_pos h, if_pos h]; simp
  · rw [List.filter_cons_of_neg h, if_neg h]; simp

set_option maxRecDepth 100000 in
set_option maxHeartbeats 4000000 in
theorem SimDrop_walk (l : List Ev) (id : Int) (a : Option Addr) (cap : Nat) (w : World) (hx : EvA w a l) (hl : l.length ≤ 9223372036854775807) :
    Calls Try.prog 5 #[.slice a l.length cap, .int .i64 id] w fun e w' => e = .returned (.bool true) ∧ Below w.heap.size w w' := by
  go_enter Try.func5, Try.ntmps5
  go_wp2_with fail
  refine (simFact_any w).mono ?_
  rintro e w1 ⟨rfl, b1⟩
  go_wp2_with fail
  refine (NewB w w1 b1).mono ?_
  rintro e w2 ⟨S, rfl, h2⟩
  have H2 := Lib.hid h2
  clear h2 b1
  go_wp2
  go_loopw [7, 8, 9] (fun mine others i wr => ∃ (k : Nat) (q : List Ev) (P m o : Int), mine = .int .i64 m ∧ others = .int .i64 o ∧ i = .int .i64 k ∧ k ≤ l.length ∧ k ≤ 60 ∧ P ≤ k ∧ 0 ≤ m ∧ m ≤ 60 ∧ 0 ≤ o ∧ o ≤ 60 ∧ m = (q.filter (sameId id)).length ∧ o = (q.filter (offId id)).length ∧ SimB w wr S q 0 P) (fun _ _ i _ => 60 - (intOf i).toNat)
  case atStart => exact ⟨0, [], 0, 0, 0, rfl, rfl, rfl, Nat.zero_le _, by omega, by omega, by omega, by omega, by omega, by omega, rfl, rfl, H2.out⟩
  case round =>
    obtain ⟨k, q, P, m, o, rfl, rfl, rfl, hk, hk60, hPk, m0, m1, o0, o1, hm, ho, R⟩ := hrel
    have HR := Lib.hid R
    have Hm := Lib.hid hm
    have Ho := Lib.hid ho
    clear hm ho
    by_cases hg : k < l.length ∧ k < 60
    · obtain ⟨hlt, h60⟩ := hg
      have hkI : (k : Int) < (l.length : Int) := by omega
      have h60I : (k : Int) < 60 := by omega
      obtain ⟨bl, off, rfl, hbl, hcl⟩ := (hx.below R.below).open (by omega)
      obtain ⟨c0, c1⟩ := hcl k hlt
      generalize (l.getD k e0).t = t at c0
      generalize (l.getD k e0).id = id2 at c1
      have HX := Lib.hid (fun W (hb : Below w.heap.size w W) => (hx.below hb).open (by omega))
      have hc0' := c0
      have hc1' := c1
      clear hcl
      by_cases hc : planC q 0 t id2 = 0
      · have hq60 : q.length < 60 := by obtain ⟨_, _, _, _, _, h⟩ := planC_ok hc; have := R.fine.many; omega
        have hft := filter_two id q
        have HP := Lib.hid (PlanB_yes HR.out hc (by omega))
        clear hc R
        go_wp2_with fail
        refine HP.out.mono ?_
        rintro e w3 ⟨rfl, h3⟩
        obtain ⟨bl2, off2, he2, _, hcl2⟩ := HX.out _ h3.below
        simp only [Option.some.injEq, Addr.mk.injEq, and_true] at he2
        obtain ⟨rfl, rfl⟩ := he2
        have z1 := (hcl2 k hlt).2
        have hsame : (l.getD k e0).id = id2 := by
          have h1 := (HR.out.below.cell (p := ⟨bl, off + k * 2 + 1, none⟩) (by
            rcases hx with h | ⟨b', o', he, hl', _⟩
            · rw [h] at hlt; simp at hlt
            · simp only [Option.some.injEq, Addr.mk.injEq, and_true] at he
              show bl < w.heap.size
              rw [he.1]; exact hl'))
          have h2 := (h3.below.cell (p := ⟨bl, off + k * 2 + 1, none⟩) (by
            rcases hx with h | ⟨b', o', he, hl', _⟩
            · rw [h] at hlt; simp at hlt
            · simp only [Option.some.injEq, Addr.mk.injEq, and_true] at he
              show bl < w.heap.size
              rw [he.1]; exact hl'))
          rw [z1] at h2
          rw [hc1'] at h1
          have := h2.trans h1.symm
          simpa using this
        rw [hsame] at z1
        have H3 := Lib.hid h3
        have c2 := count_ins id ⟨t, id2, P + 1⟩ q (sameId id)
        have c3 := count_ins id ⟨t, id2, P + 1⟩ q (offId id)
        have C2 := Lib.hid c2
        have C3 := Lib.hid c3
        have Hft := Lib.hid hft
        clear hcl2 hsame h3 c2 c3 c0 c1 hc0' hc1' hft
        by_cases hid : id2 = id
        · have hie : (id2 == id) = true := by rw [hid]; exact beq_self_eq_true _
          have e1 : sameId id ⟨t, id2, P + 1⟩ = true := by simpa [sameId] using hid
          have E1 := Lib.hid e1
          clear hid e1
          go_wp2
          go_roundw
          case rel =>
            have k1 := C2.out
            have k2 := C3.out
            rw [if_pos E1.out] at k1
            rw [if_neg (by simp [offId, E1.out])] at k2
            exact ⟨k + 1, _, P + 1, m + 1, o, by first | rfl | go_num, rfl, by go_num, by omega, by omega, by omega, by omega, by have := Hm.out; have := Hft.out; omega, o0, o1, by rw [k1, Hm.out]; rfl, by rw [k2]; exact Ho.out, H3.out⟩
          case measure => simp only [intOf]; omega
        · have hie : (id2 == id) = false := by rw [beq_eq_false_iff_ne]; exact hid
          have e1 : sameId id ⟨t, id2, P + 1⟩ = false := by simpa [sameId] using hid
          have E1 := Lib.hid e1
          clear hid e1
          go_wp2
          go_roundw
          case rel =>
            have k1 := C2.out
            have k2 := C3.out
            rw [if_neg (by rw [E1.out]; simp)] at k1
            rw [if_pos (by simp [offId, E1.out])] at k2
            exact ⟨k + 1, _, P + 1, m, o + 1, rfl, by first | rfl | go_num, by go_num, by omega, by omega, by omega, m0, m1, by omega, by have := Ho.out; have := Hft.out; omega, by rw [k1]; exact Hm.out, by rw [k2, Ho.out]; rfl, H3.out⟩
          case measure => simp only [intOf]; omega
      · have HP := Lib.hid (PlanB_no HR.out hc)
        clear hc R c0 c1
        have c0 := hc0'
        have c1 := hc1'
        go_wp2_with fail
        refine HP.out.mono ?_
        rintro e w3 ⟨rfl, h3⟩
        have H3 := Lib.hid h3
        clear h3
        go_wp2
        go_roundw
        case rel => exact ⟨k + 1, q, P, m, o, rfl, rfl, by go_num, by omega, by omega, by omega, m0, m1, o0, o1, Hm.out, Ho.out, H3.out⟩
        case measure => simp only [intOf]; omega
    · have hfact : (l.length : Int) ≤ k ∨ ((k : Int) < l.length ∧ (60 : Int) ≤ k) := by omega
      have hq0 := R.fine
      have hfin := hq0.filter (offId id)
      obtain ⟨t1, t2⟩ := till_top hfin
      have HD := Lib.hid (DropB id R)
      have HT := Lib.hid t1
      have HT2 := Lib.hid t2
      have HQ := Lib.hid (show ∀ e ∈ q.filter (offId id), e.id ≠ id from fun e he c => by have := (List.mem_filter.1 he).2; simp [offId, sameId, c] at this)
      have hol : (q.filter (offId id)).length ≤ 60 := by have := hfin.many; exact this
      clear R hq0 hfin t1 t2 hg
      have hbe : ((m : Int) != m) = false := by simp
      generalize hqq : q.filter (offId id) = keep at *
      have hbo : (((keep.length : Nat) : Int) != o) = false := by rw [← Ho.out]; simp
      rw [← Hm.out] at HD
      rcases hfact with hf | ⟨hf1, hf2⟩
      all_goals
        go_wp2_with fail
        refine HD.out.mono ?_
        rintro e w4 ⟨rfl, h4⟩
        have HU := Lib.hid (UntilB (T := 1000000) h4 (by decide))
        rw [HT.out, HT2.out] at HU
        clear h4
        go_wp2_with fail
        refine HU.out.mono ?_
        rintro e w5 ⟨ao, capo, rfl, hown, h5⟩
        have H5 := Lib.hid h5
        have HOwn := Lib.hid hown
        clear h5 hown
        go_wp2_with fail
        refine (ManyB H5.out).mono ?_
        rintro e w6 ⟨rfl, rfl⟩
        go_wp2
        go_loopw [13] (fun i wr => ∃ j : Nat, i = .int .i64 j ∧ j ≤ keep.length ∧ wr = w5) (fun i _ => keep.length - (intOf i).toNat)
        case atStart => exact ⟨0, rfl, Nat.zero_le _, rfl⟩
        case round =>
          obtain ⟨j, rfl, hj, rfl⟩ := hrel
          rcases Nat.lt_or_ge j keep.length with hlt | hge
          · obtain ⟨g, rfl, _, _, hcell⟩ := HOwn.out.open (by omega)
            have y1 := (hcell j hlt).2
            have hne := HQ.out (keep.getD j e0) (by rw [getD_lt e0 keep j hlt]; exact List.getElem_mem hlt)
            generalize (keep.getD j e0).id = z at *
            have hze : (z == id) = false := by rw [beq_eq_false_iff_ne]; exact hne
            have hjI : (j : Int) < (keep.length : Int) := by omega
            clear hcell hne
            go_wp2
            go_roundw
            case rel => exact ⟨j + 1, by go_num, by omega, by first | rfl | trivial⟩
            case measure => simp only [intOf]; omega
          · obtain rfl : keep.length = j := by omega
            have h3 : decide (keep.length < keep.length) = false := by simp
            go_wp2
            go_ret
            exact ⟨rfl, H5.out.below⟩
end Go.Proofs.Ytcdmbbnenljnlaa
