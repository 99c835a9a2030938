/- WALK: the law BinsHalf returns true. -/
import Derived.Test.YtdkknigicpbgcaaBinsWalks3
namespace Go.Proofs.Ytdkknigicpbgcaa
open Go Go.RowKit BinsPlain

theorem fact_fine : Fine [3, 3, 2] 5 := ⟨by decide, by decide, by decide, by decide⟩
theorem fact_same : sameB (firstL [3, 3, 2] 5) [0, 1, 0] = true := by decide

theorem binsFact_any (w : World) : Calls Try.prog 6 #[] w fun e w' => e = .returned (.bool true) ∧ Below w.heap.size w w' := by
  go_enter Try.func6, Try.ntmps6
  go_wp2_with fail
  have hr : Row (w.alloc (.cells #[.int .i64 3, .int .i64 3, .int .i64 2] 3)) w.heap.size 3 [3, 3, 2] := heap_alloc_new w _
  refine (First_yes [3, 3, 2] 5 (some ⟨w.heap.size, 0, none⟩) 3 _ hr.ints fact_fine).mono ?_
  rintro e w1 ⟨g, rfl, h1, h2, h3⟩
  have b1 : Below w.heap.size w w1 := ((Below.refl _ _).alloc (Nat.le_refl _) _).trans (h3.mono (by simp))
  have hf := fact_same
  generalize firstL [3, 3, 2] 5 = F at h2 hf ⊢
  have hl : F.length ≤ 9223372036854775807 := by
    have := of_decide_eq_true hf
    rw [this]; decide
  have Hf := Lib.hid hf
  clear hf
  go_wp2_with fail
  have hr2 : Row (w1.alloc (.cells #[.int .i64 0, .int .i64 1, .int .i64 0] 3)) w1.heap.size 3 [0, 1, 0] := heap_alloc_new w1 _
  refine (Ints_any F [0, 1, 0] (some ⟨g, 0, none⟩) (some ⟨w1.heap.size, 0, none⟩) _ 3 _ (h2.alloc _).ints hr2.ints hl).mono ?_
  rintro e w2 ⟨rfl, n, rfl⟩
  rw [Hf.out]
  go_wp2
  go_ret
  exact ⟨rfl, drewN_below (b1.alloc (by have := b1.size; omega) _) n⟩

/-- what the first loop keeps -/
structure HalfRel (sizes : List Int) (room : Int) (x : List Int) (g : Nat) (w w1 : World) (k : Nat) (al : Option Addr) (capl : Nat) (wr : World) : Prop where
  hk : k ≤ sizes.length
  own : Own wr w1.heap.size 3 al capl (loadOf room (leftA sizes room k))
  nilz : leftA sizes room k = [] → al = none ∧ capl = 0
  row : Row wr g 3 x
  bel : Below w1.heap.size w1 wr

set_option maxHeartbeats 1000000 in
theorem BinsHalf_walk (sizes : List Int) (room : Int) (a : Option Addr) (cap : Nat) (w : World) (hx : Ints w a sizes) (hl : sizes.length ≤ 9223372036854775807) :
    Calls Try.prog 3 #[.slice a sizes.length cap, .int .i64 room] w fun e w' => e = .returned (.bool true) ∧ Below w.heap.size w w' := by
  by_cases hc : chk sizes room = 0
  · have hf := chk_fine hc
    clear hc
    have hs := hf.short
    have r1 := hf.r1
    have r2 := hf.r2
    obtain ⟨i0, hi, hz0, hz1, hz2⟩ := info_parts intInfo
    go_enter Try.func3, Try.ntmps3
    go_wp2_with fail
    refine (binsFact_any _).mono ?_
    rintro e w0 ⟨rfl, b0⟩
    have hx0 := hx.below b0
    go_wp2_with fail
    refine (First_yes sizes room a cap _ hx0 hf).mono ?_
    rintro e w1 ⟨g, rfl, hg, hrow, b1⟩
    have b01 := b0.trans (b1.mono b0.size)
    have hx1 := hx.below b01
    have hxl := firstL_length sizes room
    have hgl := hrow.lt
    have hxg : ∀ k, k < sizes.length → (firstL sizes room).getD k 0 = (fitIdx (leftA sizes room k) (sizes.getD k 0) : Nat) := first_getD sizes room
    generalize firstL sizes room = x at hrow hxl hxg ⊢
    rw [hxl]
    have Hxl := Lib.hid hxl
    have Hxg := Lib.hid hxg
    clear hxl hxg
    have hne0 : ((sizes.length : Int) != (sizes.length : Int)) = false := by simp
    go_wp2_with fail
    go_loopw [8, 9] (fun left idx wr => ∃ (k : Nat) (al : Option Addr) (capl : Nat), idx = .int .i64 k ∧ left = .slice al (leftA sizes room k).length capl ∧ HalfRel sizes room x g w w1 k al capl wr)
      (fun _ i _ => sizes.length - (intOf i).toNat)
    case atStart => exact ⟨0, none, 0, rfl, rfl, Nat.zero_le _, Own.nil _ _ _, fun _ => ⟨rfl, rfl⟩, hrow, Below.refl _ _⟩
    case round =>
      obtain ⟨k, al, capl, rfl, rfl, R⟩ := hrel
      rcases Nat.lt_or_ge k sizes.length with hlt | hge
      · obtain ⟨b, off, rfl, hcs⟩ := hx1.open (by omega)
        have hck := hcs k hlt
        have hbs : b < w.heap.size := by
          rcases hx with rfl | ⟨b', off', he, hc'⟩
          · simp at hlt
          · simp only [Option.some.injEq, Addr.mk.injEq, and_true] at he
            rw [he.1]; exact World.block_lt_of_cell? w _ (hc' k hlt)
        have hbs1 : b < w1.heap.size := by have := b01.size; omega
        rw [← R.bel.cell (p := ⟨b, off + k, none⟩) hbs1] at hck
        clear hcs
        have hsk := hf.all _ (getD_mem sizes k hlt)
        have hxk := R.row.cell k (by rw [Hxl.out]; exact hlt)
        rw [Hxg.out k hlt] at hxk
        have LO := leftA_ok sizes room hf.all k (by omega)
        have hll := leftA_length sizes room k
        have hnext : leftA sizes room (k + 1) = place room (leftA sizes room k) (sizes.getD k 0) := rfl
        have hpl := place_length room (leftA sizes room k) (sizes.getD k 0)
        have hle := fitIdx_le (leftA sizes room k) (sizes.getD k 0)
        have hin := loadOf_in room (leftA sizes room k) (sizes.getD k 0)
        have hnew := loadOf_new room (leftA sizes room k) (sizes.getD k 0)
        rw [← hnext] at hin hnew hpl
        have HR := Lib.hid R
        have hb1 := R.own.lt
        clear R
        have hlol := loadOf_length room (leftA sizes room k)
        have hget := loadOf_getD room (leftA sizes room k)
        generalize hv : sizes.getD k 0 = v at hck hsk hxk hle hin hnew hpl hnext
        have Hnext := Lib.hid hnext
        clear hnext
        generalize ht : fitIdx (leftA sizes room k) v = t at hxk hle hin hnew hpl
        have HLO := Lib.hid LO
        clear LO hv
        rcases Nat.lt_or_ge t (leftA sizes room k).length with htl | htl
        · have hin := hin htl
          have Lt := HLO.out.low t htl
          have Lh := HLO.out.high t htl
          obtain ⟨h, rfl, hh1, hh2, hhc, hhf⟩ := HR.out.own.open (by omega)
          have hct := hhc t (by omega)
          have hft := hhf t
          rw [hget t htl] at hct
          clear hhc hhf hnew hget ht
          generalize (leftA sizes room k).getD t 0 = lv at hct hin Lt Lh
          have Hin := Lib.hid hin
          have Hpl := Lib.hid hpl
          have Hlol := Lib.hid hlol
          clear hin hpl hlol
          have hne1 : ((t : Int) == ((leftA sizes room k).length : Int)) = false := by rw [beq_eq_false_iff_ne]; omega
          have hne2 : ¬ h = g := by omega
          have hne3 : ¬ h = b := by omega
          go_wp2
          go_region
          go_wp2
          go_roundw
          case rel =>
            have R := HR.out
            have e1 : (leftA sizes room (k + 1)).length = (leftA sizes room k).length := by rw [Hpl.out, if_pos htl]
            refine ⟨k + 1, _, _, by go_num, by rw [e1], by omega, ?_, ?_, ?_, ?_⟩
            · rw [Hin.out]; exact (R.own.set t _).drew
            · intro h0; rw [h0] at e1; simp at e1; omega
            · exact (R.row.other _ (by show g ≠ h; omega) _).drew
            · exact (R.bel.setCell (p := ⟨h, t, none⟩) hh1 _).drew
          case measure => simp only [intOf]; omega
        · have hnew2 := hnew (by omega)
          clear hnew
          have htn : t = (leftA sizes room k).length := by omega
          have hbase : ∃ base, w1.heap.size ≤ base ∧ base ≤ wr.heap.size + 1 ∧ wr.ownsRow base 3 1 (.slice al (loadOf room (leftA sizes room k)).length capl) (loadOf room (leftA sizes room k)).length ((loadOf room (leftA sizes room k)).map (Value.int .i64)) :=
            ⟨w1.heap.size, Nat.le_refl _, by have := HR.out.bel.size; omega, HR.out.own⟩
          obtain ⟨base, hba1, hba2, hba3⟩ := hbase
          rw [hlol] at hba3
          clear hin hget ht
          subst htn
          have hlL : (leftA sizes room k).length ≤ 16 := by omega
          generalize hL : loadOf room (leftA sizes room k) = L at hba3 hnew2 hlol
          have Hnew := Lib.hid hnew2
          have Hpl := Lib.hid hpl
          have Hlol := Lib.hid hlol
          have HL := Lib.hid hL
          have Hb1 := Lib.hid hb1
          clear hnew2 hpl hlol hL hb1
          have hne1 : (((leftA sizes room k).length : Int) == ((leftA sizes room k).length : Int)) = true := by simp
          have hlL' : ((leftA sizes room k).length : Int) ≤ 16 := by omega
          have hwsz := HR.out.bel.size
          go_wp2_with (at_builtin; refine wpList_append_own _ rfl _ _ 22 rfl base 3 i0 (.int .i64 0) 1 8 Try.underlying22 hi hz0 hz1 hz2 rfl (by decide) (.slice al (leftA sizes room k).length capl) (leftA sizes room k).length (L.map (Value.int .i64)) rfl (World.ownsRow.alloc hba3 _) ⟨wr.heap.size, 0, none⟩ 1 1 [.int .i64 0] rfl rfl (cell_one_new _ _ _) (by simp [Value.oneCell']) (by unfold maxLen; omega) (by omega) (by simp; omega) ?_; intro v2 w2 own2 gr2 _)
          have R := HR.out
          obtain ⟨a2, cap2, hv2, O2⟩ := Own.of (xs := L ++ [0]) (by simpa using own2)
          rw [hv2]
          have hlen2 : (L ++ [0]).length = (leftA sizes room k).length + 1 := by rw [List.length_append, Hlol.out]; rfl
          rw [hlen2]
          obtain ⟨h, rfl, hh1, hh2, hhc, hhf⟩ := O2.open (by omega)
          have hct := hhc (leftA sizes room k).length (by omega)
          have hft := hhf (leftA sizes room k).length
          have hlast : (L ++ [0]).getD (leftA sizes room k).length 0 = 0 := by rw [← Hlol.out]; simp
          rw [hlast] at hct
          clear hhc hhf
          have hnb : ∀ kk, kk < w1.heap.size → some kk ≠ (Value.slice al (leftA sizes room k).length capl).ownBlock := fun kk hkk e => by
            have := Hb1.out kk (by rw [← HL.out] at *; rw [loadOf_length]; exact e.symm); omega
          have hW : ∀ kk, kk < w1.heap.size → w2.heap[kk]? = wr.heap[kk]? := fun kk hkk => by
            rw [gr2.block kk (by simp; omega) (hnb kk hkk), Below.heap_alloc _ _ _ (by omega)]
          have r2' : Row w2 g 3 x := (hW g hgl).trans R.row
          have c2 : w2.cell? ⟨b, off + k, none⟩ = some (.int .i64 v) := by
            rw [World.cell?_of_block (a := ⟨b, off + k, none⟩) (hW b hbs1)]; exact hck
          have x2 := r2'.cell k (by rw [Hxl.out]; exact hlt)
          have bel2 : Below w1.heap.size w1 w2 := ((R.bel.alloc hwsz _).grown gr2 (by simp; omega) (fun kk e => by
            have := Hb1.out kk (by rw [← HL.out] at *; rw [loadOf_length]; exact e); omega))
          have hxk2 : w2.cell? ⟨g, k, none⟩ = some (.int .i64 ((leftA sizes room k).length : Nat)) := by
            rw [World.cell?_of_block (a := ⟨g, k, none⟩) (hW g hgl)]; exact hxk
          clear hW hnb hv2 gr2 own2 x2 hlast
          have hne2 : ¬ h = g := by omega
          have hne3 : ¬ h = b := by omega
          have HO2 := Lib.hid O2
          have Hr2 := Lib.hid r2'
          clear O2 r2' R
          go_wp2
          go_region
          go_wp2
          go_roundw
          case rel =>
            have R := HR.out
            have e1 : (leftA sizes room (k + 1)).length = (leftA sizes room k).length + 1 := by rw [Hpl.out, if_neg (Nat.lt_irrefl _)]
            refine ⟨k + 1, _, _, by go_num, by rw [e1], by omega, ?_, ?_, ?_, ?_⟩
            · rw [Hnew.out]
              have := ((HO2.out.mono hba1).set (leftA sizes room k).length v).drew
              rw [← Hlol.out, set_last] at this
              rw [← Hlol.out]; exact this
            · intro h0; rw [h0] at e1; simp at e1
            · exact (Hr2.out.other _ (by show g ≠ h; omega) _).drew
            · exact (bel2.setCell (p := ⟨h, (leftA sizes room k).length, none⟩) (by show w1.heap.size ≤ h; omega) _).drew
          case measure => simp only [intOf]; omega
      · have hkn : k = sizes.length := by have := R.hk; omega
        have LO := leftA_ok sizes room hf.all k R.hk
        have hll := leftA_length sizes room k
        have hO := R.own.ints
        have bel3 := b01.trans (R.bel.mono b01.size)
        have hget := loadOf_getD room (leftA sizes room k)
        have hlol := loadOf_length room (leftA sizes room k)
        have two : ∀ i j, j < i → i < (leftA sizes room k).length → room < (loadOf room (leftA sizes room k)).getD i 0 + (loadOf room (leftA sizes room k)).getD j 0 := fun i j h1 h2 => by
          rw [hget i h2, hget j (by omega)]; have := LO.two i j h1 h2; omega
        have bnd : ∀ i, i < (leftA sizes room k).length → 0 ≤ (loadOf room (leftA sizes room k)).getD i 0 ∧ (loadOf room (leftA sizes room k)).getD i 0 ≤ 1000 := fun i h => by
          rw [hget i h]; have := LO.low i h; have := LO.high i h; omega
        clear hget R
        generalize loadOf room (leftA sizes room k) = L at hO two bnd hlol
        generalize leftA sizes room k = M at LO hll two bnd hlol ⊢
        have hM : M.length ≤ 16 := by omega
        have Htwo := Lib.hid two
        have Hbnd := Lib.hid bnd
        have Hlol := Lib.hid hlol
        have h3 : ((sizes.length : Nat) : Int) ≤ (k : Int) := by omega
        clear two bnd LO hlol hll hkn
        go_wp2
        obtain ⟨wo, rfl⟩ : ∃ wo : World, wo = wr := ⟨_, rfl⟩
        go_loopw [10] (fun i wi => ∃ (m n : Nat), i = .int .i64 m ∧ m ≤ M.length ∧ wi = wo.drewN n) (fun i _ => M.length - (intOf i).toNat)
        case atStart => exact ⟨0, 0, rfl, Nat.zero_le _, rfl⟩
        case round =>
          obtain ⟨m, n, rfl, hm, rfl⟩ := hrel
          rcases Nat.lt_or_ge m M.length with hml | hml
          · go_wp2
            go_loopw [11] (fun i wi => ∃ (p n : Nat), i = .int .i64 p ∧ p ≤ m ∧ wi = wo.drewN n) (fun i _ => m - (intOf i).toNat)
            case atStart => exact ⟨0, n, rfl, Nat.zero_le _, rfl⟩
            case round =>
              obtain ⟨p, n', rfl, hp, rfl⟩ := hrel
              rcases Nat.lt_or_ge p m with hpm | hpm
              · obtain ⟨h, off, rfl, hcl⟩ := hO.open (by rw [Hlol.out]; omega)
                have c1 := hcl m (by rw [Hlol.out]; exact hml)
                have c2 := hcl p (by rw [Hlol.out]; omega)
                have t2 := Htwo.out m p hpm hml
                have d1 := Hbnd.out m hml
                have d2 := Hbnd.out p (by omega)
                clear hcl
                generalize L.getD m 0 = u1 at c1 t2 d1
                generalize L.getD p 0 = u2 at c2 t2 d2
                go_wp2
                go_quiet (fail)
                go_wp2
                go_roundw
                case rel => exact ⟨p + 1, n' + nq, by go_num, by omega, by first | rfl | rw [World.drewN_drewN]⟩
                case measure => simp only [intOf]; omega
              · have h4 : (m : Int) ≤ (p : Int) := by omega
                go_wp2
                go_roundw
                case rel => exact ⟨m + 1, n', by go_num, by omega, rfl⟩
                case measure => simp only [intOf]; omega
          · have h4 : (M.length : Int) ≤ (m : Int) := by omega
            go_wp2
            go_ret
            exact ⟨rfl, drewN_below bel3 n⟩
  · have Hc := Lib.hid hc
    clear hc
    go_enter Try.func3, Try.ntmps3
    go_wp2_with fail
    refine (binsFact_any _).mono ?_
    rintro e w0 ⟨rfl, b0⟩
    go_wp2_with fail
    refine (First_no sizes room a cap _ (hx.below b0) hl Hc.out).mono ?_
    rintro e w1 ⟨rfl, rfl⟩
    go_wp2
    go_ret
    exact ⟨rfl, b0⟩
end Go.Proofs.Ytdkknigicpbgcaa
