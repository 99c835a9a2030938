/- WALKS: the document's place, Whole, Sides, Stable. -/
import Derived.Test.YtomgcfjdmoefgaaDoorWedCode
import Derived.Test.YtomgcfjdmoefgaaDoorRefJobs
import Derived.Test.YtomgcfjdmoefgaaDoorWedPlain
import Derived.Test.YtomgcfjdmoefgaaDoorInts
namespace Go.Proofs.YtomgcfjdmoefgaaDoor
open Go Go.RowKit WedPlain

theorem mat_row {w : World} {a : Option Addr} {n i : Nat} {m : List (List Int)} (h : Mat w a m) (hs : Side n m) (hi : i < m.length) :
    ∃ b off ai ci, a = some ⟨b, off, none⟩ ∧ w.cell? ⟨b, off + i, none⟩ = some (.slice ai n ci) ∧ Ints w ai (m.getD i []) := by
  obtain ⟨b, off, rfl, _, hc⟩ := h.open (by omega)
  obtain ⟨ai, ci, c1, c2, _⟩ := hc i hi
  rw [(hs i hi).len] at c1
  exact ⟨b, off, ai, ci, rfl, c1, c2⟩
theorem idx_first {xs : List Int} {k : Nat} {v : Int} (hlt : k < xs.length) (h1 : xs.getD k 0 = v) (hn : v ∉ xs.take k) : xs.idxOf v = k := by
  rw [List.getD_eq_getElem?_getD, List.getElem?_eq_getElem hlt, Option.getD_some] at h1
  have h2 : xs = xs.take k ++ v :: xs.drop (k + 1) := by
    rw [← h1, ← List.drop_eq_getElem_cons hlt, List.take_append_drop]
  rw [h2, List.idxOf_append, if_neg hn, List.idxOf_cons_self]
  simp; omega
theorem rplace (xs : List Int) (v : Int) (hv : v ∈ xs) (a : Option Addr) (len cap : Nat) (hlen : len = xs.length) (w : World) (hx : Ints w a xs) (hl : xs.length ≤ 9223372036854775807) (n : Nat) :
    Calls Tryd.prog 66 #[.slice a len cap, .int .i64 v] (w.drewN n) fun e w' => e = .returned (.int .i64 (xs.idxOf v : Nat)) ∧ w' = w.drewN n := by
  subst hlen
  have hx := hx.drewN n
  generalize w.drewN n = w at *
  have Hv := Lib.hid hv
  clear hv
  go_enter Tryd.func66, Tryd.ntmps66
  go_wp2
  go_loop [5] (fun i => ∃ k : Nat, i = .int .i64 k ∧ k ≤ xs.length ∧ v ∉ xs.take k) (fun i => xs.length - (intOf i).toNat)
  case atStart => exact ⟨0, rfl, Nat.zero_le _, by simp⟩
  case round =>
    obtain ⟨k, rfl, hk, hn⟩ := hrel
    have Hn := Lib.hid hn
    clear hn
    rcases Nat.lt_or_ge k xs.length with hlt | hge
    · obtain ⟨b, o, rfl, hc⟩ := hx.open (by omega)
      have hck := hc k hlt
      clear hc
      generalize hu : xs.getD k 0 = u at hck
      have Hu := Lib.hid hu
      clear hu
      by_cases e : u = v
      · have E := Lib.hid e
        have eB : (u == v) = true := by rw [e]; simp
        clear e
        go_wp2
        go_ret
        exact ⟨ret_int (by rw [idx_first hlt (Hu.out.trans E.out) Hn.out]), rfl⟩
      · have eB : (u == v) = false := by rw [beq_eq_false_iff_ne]; exact e
        have E := Lib.hid e
        clear e
        go_wp2
        go_round
        case rel =>
          refine ⟨k + 1, by go_num, by omega, ?_⟩
          rw [take_snocI hlt, List.mem_append, List.mem_singleton]
          rintro (h | h)
          · exact Hn.out h
          · exact E.out (by rw [h, Hu.out])
        case measure => simp only [intOf]; omega
    · obtain rfl : xs.length = k := by omega
      exfalso
      have h := Hn.out
      rw [List.take_length] at h
      exact h Hv.out

set_option maxHeartbeats 1000000 in
theorem rwhole_any (n : Nat) (xs : List Int) (a : Option Addr) (cap : Nat) (w : World) (hx : Ints w a xs) (hn : n ≤ 1000) (hl : xs.length ≤ 9223372036854775807) :
    Calls Tryd.prog 31 #[.int .i64 n, .slice a xs.length cap] w fun e w' => e = .returned (.int .i64 (wholeC n xs)) ∧ ∃ q, w' = w.drewN q := by
  by_cases hln : xs.length = n
  · subst hln
    rw [wholeAt_zero xs.length xs rfl]
    obtain ⟨c, hc⟩ : ∃ c, wholeAt xs.length xs 0 = c := ⟨_, rfl⟩
    rw [hc]
    have Hc := Lib.hid hc
    clear hc
    have hne : ((xs.length : Int) != (xs.length : Int)) = false := by simp
    go_enter Tryd.func31, Tryd.ntmps31
    go_wp2
    go_loopw [5] (fun i wr => ∃ k q : Nat, i = .int .i64 k ∧ k ≤ xs.length ∧ wholeAt xs.length xs k = c ∧ wr = w.drewN q) (fun i _ => xs.length - (intOf i).toNat)
    case atStart => exact ⟨0, 0, rfl, Nat.zero_le _, Hc.out, rfl⟩
    case round =>
      obtain ⟨k, q, rfl, hk, hC, rfl⟩ := hrel
      have HC := Lib.hid hC
      clear hC
      rcases Nat.lt_or_ge k xs.length with hlt | hge
      · obtain ⟨b, off, rfl, hc⟩ := hx.open (by omega)
        have hck := hc k hlt
        have hr := wholeAt_range (n := xs.length) hlt (v := xs.getD k 0) rfl
        have hcl := wholeAt_clash (n := xs.length) hlt (v := xs.getD k 0) rfl
        have hnx := wholeAt_next (n := xs.length) hlt (v := xs.getD k 0) rfl
        have Hcc := Lib.hid hc
        clear hc
        generalize xs.getD k 0 = v at *
        have hkI : (k : Int) < (xs.length : Int) := by omega
        by_cases h1 : 0 ≤ v ∧ v ≤ (xs.length : Int) - 1
        · obtain ⟨p1, p2⟩ := h1
          have Hcl := Lib.hid (hcl p1 p2)
          have Hnx := Lib.hid (hnx p1 p2)
          clear hr hcl hnx
          go_wp2_with fail
          refine (rin_yes v 0 ((xs.length : Int) - 1) p1 p2 _).mono ?_
          rintro e w' ⟨rfl, rfl⟩
          go_wp2
          go_loopw [6] (fun j wx => ∃ t q : Nat, j = .int .i64 t ∧ t ≤ k ∧ v ∉ xs.take t ∧ wx = w.drewN q) (fun j _ => k - (intOf j).toNat)
          case atStart => exact ⟨0, q, rfl, Nat.zero_le _, by simp, rfl⟩
          case round =>
            obtain ⟨t, q2, rfl, ht, hnot, rfl⟩ := hrel
            have Hnot := Lib.hid hnot
            clear hnot
            rcases Nat.lt_or_ge t k with htk | htk
            · have htl : t < xs.length := by omega
              have hct := Hcc.out t htl
              have hts := take_snocI htl
              have htI : (t : Int) < (xs.length : Int) := by omega
              have htkI : (t : Int) < (k : Int) := by omega
              have hmem : xs.getD t 0 ∈ xs.take k := by
                have : xs.take k = xs.take t ++ xs.getD t 0 :: (xs.take k).drop (t + 1) := by
                  have e1 : (xs.take k).take t = xs.take t := by rw [List.take_take, Nat.min_eq_left (by omega)]
                  have e2 : (xs.take k).drop t = xs.getD t 0 :: (xs.take k).drop (t + 1) := by
                    rw [List.drop_eq_getElem_cons (by rw [List.length_take]; omega), List.getElem_take, List.getD_eq_getElem?_getD, List.getElem?_eq_getElem htl]; rfl
                  rw [← e1, ← e2, List.take_append_drop]
                rw [this]; simp
              have Hmem := Lib.hid hmem
              have Hts := Lib.hid hts
              clear hmem hts
              generalize xs.getD t 0 = u at *
              by_cases e : u = v
              · have eB : (u == v) = true := by rw [e]; simp
                have Hbad := Lib.hid (Hcl.out (by rw [← e]; exact Hmem.out))
                clear e
                go_wp2
                go_quiet (fail)
                go_wp2
                go_ret
                exact ⟨ret_int (by rw [← HC.out, Hbad.out]), _, by first | rfl | rw [World.drewN_drewN]⟩
              · have eB : (u == v) = false := by rw [beq_eq_false_iff_ne]; exact e
                have E := Lib.hid e
                clear e
                go_wp2
                go_quiet (fail)
                go_wp2
                go_roundw
                case rel =>
                  refine ⟨t + 1, _, by go_num, by omega, ?_, by first | rfl | rw [World.drewN_drewN]⟩
                  rw [Hts.out, List.mem_append, List.mem_singleton]
                  rintro (h | h)
                  · exact Hnot.out h
                  · exact E.out h.symm
                case measure => simp only [intOf]; omega
            · obtain rfl : k = t := by omega
              have h3 : decide (k < k) = false := by simp
              have hN := Hnx.out Hnot.out
              have HN := Lib.hid hN
              clear hN
              go_wp2
              go_roundw
              case rel => exact ⟨k + 1, q2, by go_num, by omega, by rw [← HN.out]; exact HC.out, rfl⟩
              case measure => simp only [intOf]; omega
        · have hv : v < 0 ∨ (xs.length : Int) - 1 < v := by omega
          have Hbad := Lib.hid (hr hv)
          have Hv := Lib.hid hv
          clear h1 hv hr hcl hnx
          go_wp2_with fail
          refine (rin_no v 0 ((xs.length : Int) - 1) Hv.out _).mono ?_
          rintro e w' ⟨rfl, rfl⟩
          go_wp2
          go_ret
          exact ⟨ret_int (by rw [← HC.out, Hbad.out]), q, rfl⟩
      · obtain rfl : xs.length = k := by omega
        have h3 : decide (xs.length < xs.length) = false := by simp
        have h0 := wholeAt_end xs.length xs
        rw [HC.out] at h0
        have H0 := Lib.hid h0
        clear h0
        go_wp2
        go_ret
        exact ⟨ret_int (by rw [H0.out]), q, rfl⟩
  · have hne : ((xs.length : Int) != (n : Int)) = true := by rw [bne_iff_ne]; omega
    have e : wholeC n xs = 3 := by unfold wholeC; rw [if_neg hln]
    rw [e]
    clear hln e
    go_enter Tryd.func31, Tryd.ntmps31
    go_wp2
    go_ret
    exact ⟨rfl, 0, rfl⟩

theorem Mat.drewN {w : World} {a : Option Addr} {m : List (List Int)} (h : Mat w a m) (q : Nat) : Mat (w.drewN q) a m := h
set_option maxHeartbeats 2000000 in
theorem rsides_any (A B : List (List Int)) (a b : Option Addr) (cap cap' : Nat) (w : World) (hx : Mat w a A) (hy : Mat w b B) (hl : A.length ≤ 9223372036854775807) (hl' : B.length ≤ 9223372036854775807) :
    Calls Tryd.prog 27 #[.slice a A.length cap, .slice b B.length cap'] w fun e w' => e = .returned (.int .i64 (sidesC A B)) ∧ ∃ q, w' = w.drewN q := by
  rcases Nat.lt_or_ge 8 A.length with h1 | h1
  · have h1' : (8 : Int) < A.length := by omega
    have e : sidesC A B = 4 := by unfold sidesC; rw [if_pos (.inl h1)]
    rw [e]
    clear e
    go_enter Tryd.func27, Tryd.ntmps27
    go_wp2
    go_ret
    exact ⟨rfl, 0, rfl⟩
  · have h1' : (A.length : Int) ≤ 8 := by omega
    rcases Nat.lt_or_ge 8 B.length with h2 | h2
    · have h2' : (8 : Int) < B.length := by omega
      have e : sidesC A B = 4 := by unfold sidesC; rw [if_pos (.inr h2)]
      rw [e]
      clear e
      go_enter Tryd.func27, Tryd.ntmps27
      go_wp2
      go_ret
      exact ⟨rfl, 0, rfl⟩
    · have h2' : (B.length : Int) ≤ 8 := by omega
      by_cases h3 : B.length = A.length
      · have hne : ((A.length : Int) != (B.length : Int)) = false := by rw [bne_eq_false_iff_eq]; omega
        have hsd : sidesC A B = if rowsAt A.length A 0 = 0 then rowsAt A.length B 0 else rowsAt A.length A 0 := by
          unfold sidesC rowsAt
          rw [if_neg (by omega), if_pos h3.symm]; simp
        obtain ⟨ca, hca⟩ : ∃ c, rowsAt A.length A 0 = c := ⟨_, rfl⟩
        obtain ⟨cb, hcb⟩ : ∃ c, rowsAt A.length B 0 = c := ⟨_, rfl⟩
        rw [hca, hcb] at hsd
        rw [hsd]
        obtain ⟨cz, hcz⟩ : ∃ c, (if ca = 0 then cb else ca) = c := ⟨_, rfl⟩
        rw [hcz]
        have Hcz := Lib.hid hcz
        have Hca := Lib.hid hca
        have Hcb := Lib.hid hcb
        have H3 := Lib.hid h3
        clear h3 hsd hca hcb hcz
        go_enter Tryd.func27, Tryd.ntmps27
        go_wp2
        go_loopw [5] (fun i wr => ∃ k q : Nat, i = .int .i64 k ∧ k ≤ A.length ∧ rowsAt A.length A k = ca ∧ wr = w.drewN q) (fun i _ => A.length - (intOf i).toNat)
        case atStart => exact ⟨0, 0, rfl, Nat.zero_le _, Hca.out, rfl⟩
        case round =>
          obtain ⟨k, q, rfl, hk, hall, rfl⟩ := hrel
          have Hall := Lib.hid hall
          clear hall
          rcases Nat.lt_or_ge k A.length with hlt | hge
          · obtain ⟨bm, om, rfl, hbm, hcm⟩ := (hx.drewN q).open (by omega)
            obtain ⟨ai, ci, c1, c2, c3⟩ := hcm k hlt
            have hW := rwhole_any A.length (A.getD k []) ai ci _ c2 (by omega) c3
            have hst := rowsAt_step (n := A.length) hlt
            rw [Hall.out] at hst
            clear hcm c2
            obtain ⟨row, hrow⟩ : ∃ row, A.getD k [] = row := ⟨_, rfl⟩
            rw [hrow] at c1 c3 hW hst
            obtain ⟨cc, hcc⟩ : ∃ cc, wholeC A.length row = cc := ⟨_, rfl⟩
            rw [hcc] at hW hst
            have HW := Lib.hid hW
            clear hrow hcc hW
            by_cases h0 : cc = 0
            · subst h0
              rw [if_pos rfl] at hst
              have Hst := Lib.hid hst
              clear hst
              go_wp2_with fail
              refine HW.out.mono ?_
              rintro e w2 ⟨rfl, q2, rfl⟩
              go_wp2
              go_roundw
              case rel => exact ⟨k + 1, _, by go_num, by omega, Hst.out.symm, by first | rfl | rw [World.drewN_drewN]⟩
              case measure => simp only [intOf]; omega
            · rw [if_neg h0] at hst
              have hne0 : (cc != 0) = true := by rw [bne_iff_ne]; exact h0
              have Hst := Lib.hid hst
              have H0 := Lib.hid h0
              clear hst h0
              go_wp2_with fail
              refine HW.out.mono ?_
              rintro e w2 ⟨rfl, q2, rfl⟩
              go_wp2
              go_ret
              exact ⟨by rw [← Hcz.out, Hst.out, if_neg H0.out]; rfl, _, by first | rfl | rw [World.drewN_drewN]⟩
          · obtain rfl : A.length = k := by omega
            have hz : ca = 0 := by rw [← Hall.out]; exact rowsAt_end _ _
            have Hz := Lib.hid hz
            clear hz
            have h5 : decide (A.length < A.length) = false := by simp
            go_wp2
            go_loopw [7] (fun i wr => ∃ k q : Nat, i = .int .i64 k ∧ k ≤ B.length ∧ rowsAt A.length B k = cb ∧ wr = w.drewN q) (fun i _ => B.length - (intOf i).toNat)
            case atStart => exact ⟨0, q, rfl, Nat.zero_le _, Hcb.out, rfl⟩
            case round =>
              obtain ⟨k, q, rfl, hk, hall, rfl⟩ := hrel
              have Hall := Lib.hid hall
              clear hall
              rcases Nat.lt_or_ge k B.length with hlt | hge
              · obtain ⟨bm, om, rfl, hbm, hcm⟩ := (hy.drewN q).open (by omega)
                obtain ⟨ai, ci, c1, c2, c3⟩ := hcm k hlt
                have hW := rwhole_any A.length (B.getD k []) ai ci _ c2 (by omega) c3
                have hst := rowsAt_step (n := A.length) hlt
                rw [Hall.out] at hst
                clear hcm c2
                obtain ⟨row, hrow⟩ : ∃ row, B.getD k [] = row := ⟨_, rfl⟩
                rw [hrow] at c1 c3 hW hst
                obtain ⟨cc, hcc⟩ : ∃ cc, wholeC A.length row = cc := ⟨_, rfl⟩
                rw [hcc] at hW hst
                have HW := Lib.hid hW
                clear hrow hcc hW
                by_cases h0 : cc = 0
                · subst h0
                  rw [if_pos rfl] at hst
                  have Hst := Lib.hid hst
                  clear hst
                  go_wp2_with fail
                  refine HW.out.mono ?_
                  rintro e w2 ⟨rfl, q2, rfl⟩
                  go_wp2
                  go_roundw
                  case rel => exact ⟨k + 1, _, by go_num, by omega, Hst.out.symm, by first | rfl | rw [World.drewN_drewN]⟩
                  case measure => simp only [intOf]; omega
                · rw [if_neg h0] at hst
                  have hne0 : (cc != 0) = true := by rw [bne_iff_ne]; exact h0
                  have Hst := Lib.hid hst
                  have H0 := Lib.hid h0
                  clear hst h0
                  go_wp2_with fail
                  refine HW.out.mono ?_
                  rintro e w2 ⟨rfl, q2, rfl⟩
                  go_wp2
                  go_ret
                  exact ⟨by rw [← Hcz.out, Hz.out, if_pos rfl, Hst.out]; rfl, _, by first | rfl | rw [World.drewN_drewN]⟩
              · obtain rfl : B.length = k := by omega
                have hz : cb = 0 := by rw [← Hall.out]; exact rowsAt_end _ _
                have Hz2 := Lib.hid hz
                clear hz
                have h5 : decide (B.length < B.length) = false := by simp
                go_wp2
                go_ret
                exact ⟨by rw [← Hcz.out, Hz.out, if_pos rfl, Hz2.out]; rfl, q, rfl⟩
      · have hne : ((A.length : Int) != (B.length : Int)) = true := by rw [bne_iff_ne]; omega
        have e : sidesC A B = 3 := by unfold sidesC; rw [if_neg (by omega), if_neg (by omega)]
        rw [e]
        clear h3 e
        go_enter Tryd.func27, Tryd.ntmps27
        go_wp2
        go_ret
        exact ⟨rfl, 0, rfl⟩
end Go.Proofs.YtomgcfjdmoefgaaDoor
