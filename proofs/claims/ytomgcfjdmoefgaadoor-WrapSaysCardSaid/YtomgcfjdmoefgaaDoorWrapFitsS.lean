/- WALK: wrap.Fits: whether pieces are a plan. -/
import Derived.Test.YtomgcfjdmoefgaaDoorWrapLongS
import Derived.Test.YtomgcfjdmoefgaaDoorWrapPlain
import Derived.BigQuiet
namespace Go.Proofs.YtomgcfjdmoefgaaDoor
open Go Go.RowKit SharePlain PackPlain ShareLaw

abbrev Pc := WrapPlain.Pc
def p0 : Pc := ⟨0, 0, 0, 0⟩
/-- four cells that read as a piece -/
structure PcAt (w : World) (b off : Nat) (p : Pc) : Prop where
  m : w.cell? ⟨b, off, none⟩ = some (.int .i64 p.m)
  j : w.cell? ⟨b, off + 1, none⟩ = some (.int .i64 p.j)
  f : w.cell? ⟨b, off + 2, none⟩ = some (.int .i64 p.f)
  t : w.cell? ⟨b, off + 3, none⟩ = some (.int .i64 p.t)
/-- a slice that reads as pieces -/
def Pcs (w : World) (a : Option Addr) (l : List Pc) : Prop := l = [] ∨ ∃ b off, a = some ⟨b, off, none⟩ ∧ b < w.heap.size ∧ ∀ i, i < l.length → PcAt w b (off + i * 4) (l.getD i p0)
theorem PcAt.below {w w' : World} {B b off : Nat} {p : Pc} (h : PcAt w b off p) (hb : Below B w w') (hB : b < B) : PcAt w' b off p :=
  ⟨by rw [hb.cell (p := ⟨b, off, none⟩) hB]; exact h.m, by rw [hb.cell (p := ⟨b, off + 1, none⟩) hB]; exact h.j, by rw [hb.cell (p := ⟨b, off + 2, none⟩) hB]; exact h.f, by rw [hb.cell (p := ⟨b, off + 3, none⟩) hB]; exact h.t⟩
theorem Pcs.below {w w' : World} {a : Option Addr} {l : List Pc} (h : Pcs w a l) (hb : Below w.heap.size w w') : Pcs w' a l := by
  rcases h with h | ⟨b, off, rfl, hlt, hc⟩
  · exact Or.inl h
  · exact Or.inr ⟨b, off, rfl, Nat.lt_of_lt_of_le hlt hb.size, fun i hi => (hc i hi).below hb hlt⟩

/-- what the first loop keeps -/
structure FitsRel (times : List Int) (m : Nat) (l : List Pc) (b : Int) (w : World) (i : Nat) (D : List Int) (wr : World) : Prop where
  hi : i ≤ l.length
  fine : ∀ p ∈ l.take i, WrapPlain.Fine times.length m b p
  apart : (l.take i).Pairwise fun p q => ¬ WrapPlain.Clash p q
  row : Row wr w.heap.size 3 D
  len : D.length = times.length
  done : ∀ k, k < times.length → D.getD k 0 = WrapPlain.done k (l.take i)
  le : ∀ k, k < times.length → 0 ≤ D.getD k 0 ∧ D.getD k 0 ≤ times.getD k 0
  bel : Below w.heap.size w wr

/-- what Fits tells -/
def FitsRes (times : List Int) (m : Nat) (l : List Pc) (b : Int) (w : World) (e : Ending) (w' : World) : Prop :=
  ∃ is : Bool, e = .returned (.tuple #[.bool is, .nilIface]) ∧ (is = true ↔ WrapPlain.Plan times m l b) ∧ Below w.heap.size w w'
theorem FitsRes.no {times : List Int} {m : Nat} {l : List Pc} {b : Int} {w w' : World} (h : ¬ WrapPlain.Plan times m l b) (hb : Below w.heap.size w w') : FitsRes times m l b w (.returned (.tuple #[.bool false, .nilIface])) w' :=
  ⟨false, rfl, ⟨fun e => (Bool.false_ne_true e).elim, fun P => absurd P h⟩, hb⟩
theorem clash_symm {p q : Pc} : WrapPlain.Clash p q ↔ WrapPlain.Clash q p := by
  unfold WrapPlain.Clash WrapPlain.Meet
  constructor <;> (rintro ⟨h1 | h1, h2, h3⟩ <;> first | exact ⟨Or.inl h1.symm, h3, h2⟩ | exact ⟨Or.inr h1.symm, h3, h2⟩)
theorem getD_p (l : List Pc) (i : Nat) (h : i < l.length) : l.getD i p0 = l[i] := by simp [List.getD_eq_getElem?_getD, h]
theorem plan_no_clash {times : List Int} {m : Nat} {l : List Pc} {b : Int} (P : WrapPlain.Plan times m l b) (k i : Nat) (h1 : k < i) (h2 : i < l.length) : ¬ WrapPlain.Clash (l.getD k p0) (l.getD i p0) := by
  rw [getD_p _ _ (by omega), getD_p _ _ h2]
  exact List.pairwise_iff_getElem.1 P.apart k i (by omega) h2 h1
theorem done_append (k : Nat) (l l' : List Pc) : WrapPlain.done k (l ++ l') = WrapPlain.done k l + WrapPlain.done k l' := by
  induction l with
  | nil => simp [WrapPlain.done]
  | cons p l ih => simp only [List.cons_append, WrapPlain.done, ih]; omega
theorem done_nonneg (k : Nat) (l : List Pc) (h : ∀ p ∈ l, p.f < p.t) : 0 ≤ WrapPlain.done k l := by
  induction l with
  | nil => simp [WrapPlain.done]
  | cons p l ih =>
    have h1 := h p (List.mem_cons_self ..)
    have h2 := ih fun q hq => h q (List.mem_cons_of_mem _ hq)
    simp only [WrapPlain.done, WrapPlain.len]
    split <;> omega
theorem plan_done_le {times : List Int} {m : Nat} {l : List Pc} {b : Int} (P : WrapPlain.Plan times m l b) (i k : Nat) (hk : k < times.length) : WrapPlain.done k (l.take i) ≤ times.getD k 0 := by
  have h1 := P.all k hk
  have h2 := done_append k (l.take i) (l.drop i)
  rw [List.take_append_drop] at h2
  have h3 := done_nonneg k (l.drop i) fun p hp => by
    obtain ⟨_, _, _, _, _, h, _⟩ := P.fine p (List.mem_of_mem_drop hp)
    exact h
  omega
theorem take_getD (l : List Pc) (i : Nat) (h : i < l.length) : l.take (i + 1) = l.take i ++ [l.getD i p0] := by
  rw [getD_p _ _ h]; exact List.take_succ_eq_append_getElem h

set_option maxRecDepth 100000 in
set_option maxHeartbeats 4000000 in
theorem Fits_any (times : List Int) (m : Nat) (l : List Pc) (b : Int) (a al : Option Addr) (cap capl : Nat) (w : World) (hx : Ints w a times) (hp : Pcs w al l) (hf : Fine times m) (hl : l.length ≤ 60) (hb : b ≤ 9223372036854775807) (hcap : l.length ≤ capl) :
    Calls Tryd.prog 17 #[.slice a times.length cap, .int .i64 m, .slice al l.length capl, .int .i64 b] w fun e w' => FitsRes times m l b w e w' := by
  have hs := hf.short
  have r1 := hf.r1
  have r2 := hf.r2
  have hchk := check_yes times m a cap w hx (by omega) (fine_chk hf)
  have hmk := fun w => run_make_row' (P := Tryd.prog) 22 3 (.int .i64 0) 8 Tryd.underlying22 (by kernel_rfl) rfl .i64 .i64 times.length (by omega) (by omega) w
  have hl' : ((l.length : Nat) : Int) ≤ 60 := by omega
  go_enter Tryd.func17, Tryd.ntmps17
  go_wp2_with fail
  refine hchk.mono ?_
  rintro e w1 ⟨rfl, rfl⟩
  clear hchk
  go_wp2
  go_loopw [33] (fun idx wr => ∃ (i : Nat) (D : List Int), idx = .int .i64 i ∧ FitsRel times m l b w i D wr) (fun i _ => l.length - (intOf i).toNat)
  case atStart =>
    refine ⟨0, List.replicate times.length 0, rfl, ⟨Nat.zero_le _, by simp, by simp, Row.made w 3 times.length, by simp, fun k hk => ?_, fun k hk => ?_, (Below.refl _ _).alloc (Nat.le_refl _) _⟩⟩
    · simp [WrapPlain.done, List.getD_eq_getElem?_getD, hk]
    · have := hf.all _ (getD_mem times k hk)
      rw [show (List.replicate times.length (0 : Int)).getD k 0 = 0 by simp [List.getD_eq_getElem?_getD, hk]]; omega
  case round =>
    obtain ⟨i, D, rfl, R⟩ := hrel
    rcases Nat.lt_or_ge i l.length with hlt | hge
    · obtain ⟨bl, off, rfl, hbl, hcl⟩ : ∃ b off, al = some ⟨b, off, none⟩ ∧ b < w.heap.size ∧ ∀ i, i < l.length → PcAt w b (off + i * 4) (l.getD i p0) := by
        rcases hp with h | h
        · rw [h] at hlt; simp at hlt
        · exact h
      have hci := (hcl i hlt).below R.bel hbl
      obtain ⟨p, hpe⟩ : ∃ p, l.getD i p0 = p := ⟨_, rfl⟩
      rw [hpe] at hci
      obtain ⟨pm, pj, pf, pt⟩ := p
      obtain ⟨c1, c2, c3, c4⟩ := hci
      have hsz := R.bel.size
      have hbel := R.bel
      have HR := Lib.hid R
      have Hpe := Lib.hid hpe
      have hmem : (⟨pm, pj, pf, pt⟩ : Pc) ∈ l := by rw [← hpe, getD_p _ _ hlt]; exact List.getElem_mem _
      have Hmem := Lib.hid hmem
      clear R hpe hmem
      have hcap2 : i ≤ capl := by omega
      by_cases hfine : WrapPlain.Fine times.length m b ⟨pm, pj, pf, pt⟩
      · have HF := Lib.hid hfine
        obtain ⟨f1, f2, f3, f4, f5, f6, f7⟩ := hfine
        simp only at f1 f2 f3 f4 f5 f6 f7
        have Hbel := Lib.hid hbel
        clear hbel
        go_wp2
        obtain ⟨wa, hwa⟩ : ∃ wa, wa = wr.alloc (.cells #[.int .i64 pm, .int .i64 pj, .int .i64 pf, .int .i64 pt] 80) := ⟨_, rfl⟩
        obtain ⟨g, hg⟩ : ∃ g, g = wr.heap.size := ⟨_, rfl⟩
        have hP : Row wa g 80 [pm, pj, pf, pt] := by rw [hwa, hg]; exact heap_alloc_new wr _
        have hwas : wa.heap.size = g + 1 := by rw [hwa, hg]; simp
        have bela : Below w.heap.size w wa := by rw [hwa]; exact Hbel.out.alloc hsz _
        have belr : Below wr.heap.size wr wa := by rw [hwa]; exact (Below.refl _ _).alloc (Nat.le_refl _) _
        rw [← hg] at belr hsz ⊢
        rw [← hwa]
        have hwg : w.heap.size < g := by rw [hg]; exact HR.out.row.lt
        have Hwas := Lib.hid hwas
        have Hbela := Lib.hid bela
        have Hbelr := Lib.hid belr
        have HP := Lib.hid hP
        clear hwa hg hwas bela belr hP
        obtain ⟨PP, hPP⟩ : ∃ PP : Pc, PP = ⟨pm, pj, pf, pt⟩ := ⟨_, rfl⟩
        have HPP := Lib.hid hPP
        clear hPP
        go_loopw [81] (fun idx wx => ∃ k : Nat, idx = .int .i64 k ∧ k ≤ i ∧ (∀ j, j < k → ¬ WrapPlain.Clash (l.getD j p0) PP) ∧ Below wa.heap.size wa wx) (fun j _ => i - (intOf j).toNat)
        case atStart => exact ⟨0, rfl, Nat.zero_le _, fun j hj => by omega, Below.refl _ _⟩
        case round =>
          obtain ⟨k, rfl, hki, hno, hbx⟩ := hrel
          have hPx := HP.out.below hbx (by have := Hwas.out; omega)
          have d1 := hPx.cell 0 (by simp)
          have d2 := hPx.cell 1 (by simp)
          have d3 := hPx.cell 2 (by simp)
          have d4 := hPx.cell 3 (by simp)
          simp only [List.getD_cons_zero, List.getD_cons_succ] at d1 d2 d3 d4
          have hglt := hPx.lt
          have HPx := Lib.hid hPx
          have Hno := Lib.hid hno
          have Hbx := Lib.hid hbx
          clear hPx hno hbx
          rcases Nat.lt_or_ge k i with hlt2 | hge2
          · have hq := (hcl k (by omega)).below (Hbela.out.trans (Hbx.out.mono (by have := Hwas.out; omega))) hbl
            obtain ⟨q, hqe⟩ : ∃ q, l.getD k p0 = q := ⟨_, rfl⟩
            rw [hqe] at hq
            have Hqe := Lib.hid hqe
            clear hqe
            obtain ⟨qm, qj, qf, qt⟩ := q
            obtain ⟨e1, e2, e3, e4⟩ := hq
            have hgb : ¬ bl = g := by omega
            have hbq := Hbela.out.trans (Hbx.out.mono (B' := w.heap.size) (by have := Hwas.out; omega))
            have Hbq := Lib.hid hbq
            clear hbq
            clear c1 c2 c3 c4
            go_wp2
            all_goals first
              | (refine ⟨⟨_, _, _, .int .i64 ((k + 1 : Nat) : Int), ⟨k + 1, rfl, by omega, fun j hj => ?_, Hbx.out.alloc Hbx.out.size _⟩, rfl, rfl, rfl, by go_num⟩, by simp only [intOf]; omega⟩
                 rcases Nat.lt_or_ge j k with h | h
                 · exact Hno.out j h
                 · obtain rfl : j = k := by omega
                   show ¬ WrapPlain.Clash (l.getD j p0) PP
                   rw [Hqe.out, HPP.out]
                   unfold WrapPlain.Clash WrapPlain.Meet
                   simp only
                   omega)
              | (refine ⟨⟨k + 1, by go_num, by omega, fun j hj => ?_, Hbx.out.alloc Hbx.out.size _⟩, by simp only [intOf]; omega⟩
                 rcases Nat.lt_or_ge j k with h | h
                 · exact Hno.out j h
                 · obtain rfl : j = k := by omega
                   show ¬ WrapPlain.Clash (l.getD j p0) PP
                   rw [Hqe.out, HPP.out]
                   unfold WrapPlain.Clash WrapPlain.Meet
                   simp only
                   omega)
              | skip
            all_goals
              go_ret2
              refine FitsRes.no (fun P => ?_) (Hbq.out.alloc Hbq.out.size _)
              refine plan_no_clash P k i hlt2 hlt ?_
              rw [Hqe.out, Hpe.out]
              unfold WrapPlain.Clash WrapPlain.Meet
              simp only
              omega
          · obtain rfl : k = i := by omega
            obtain ⟨jn, rfl⟩ : ∃ jn : Nat, pj = jn := ⟨pj.toNat, by omega⟩
            have hjn : jn < times.length := by omega
            have hrowx := (HR.out.row.below Hbelr.out hwg).below Hbx.out (by have := Hwas.out; omega)
            have dc := hrowx.cell jn (by rw [HR.out.len]; exact hjn)
            have df := hrowx.free jn
            have hDle := HR.out.le jn hjn
            have hDone := HR.out.done jn hjn
            have belx := Hbela.out.trans (Hbx.out.mono (by have := Hwas.out; omega))
            have hrlt := hrowx.lt
            obtain ⟨bt, ot, rfl, hct⟩ := (hx.below belx).open (by omega)
            have hctj := hct jn hjn
            have hbt : bt < w.heap.size := by
              rcases hx with h | ⟨b', o', he, hc'⟩
              · rw [h] at hjn; simp at hjn
              · simp only [Option.some.injEq, Addr.mk.injEq, and_true] at he
                rw [he.1]; exact World.block_lt_of_cell? w _ (hc' jn hjn)
            have htj := hf.all _ (getD_mem times jn hjn)
            have Hrowx := Lib.hid hrowx
            have Hbelx := Lib.hid belx
            clear hct hrowx belx c1 c2 c3 c4
            generalize hT : times.getD jn 0 = tj at hctj hDle htj
            generalize hDD : D.getD jn 0 = dj at dc hDle hDone
            have HT := Lib.hid hT
            have HDD := Lib.hid hDD
            have HDone := Lib.hid hDone
            clear hT hDD hDone
            have hne1 : ¬ w.heap.size = g := by omega
            have hne2 : ¬ bt = w.heap.size := by omega
            have hne3 : ¬ bt = g := by omega
            rcases Int.lt_or_le (tj - dj) (pt - pf) with hover | hover
            · go_wp2
              go_quiet (fail)
              go_wp2
              go_ret2
              refine FitsRes.no (fun P => ?_) (drewN_below Hbelx.out _)
              have h1 := plan_done_le P (k + 1) jn hjn
              rw [take_getD _ _ hlt, done_append, Hpe.out, HT.out, ← HDone.out] at h1
              simp only [WrapPlain.done, WrapPlain.len, if_true] at h1
              omega
            · go_wp2
              go_quiet (fail)
              go_wp2
              go_region
              go_wp2
              go_roundw
              case rel =>
                have R := HR.out
                refine ⟨k + 1, D.set jn (dj + (pt - pf)), by go_num, ⟨by omega, fun p hp => ?_, ?_, ?_, by simpa using R.len, fun c hc => ?_, fun c hc => ?_, ?_⟩⟩
                · rw [take_getD _ _ hlt, Hpe.out] at hp
                  rcases List.mem_append.1 hp with h | h
                  · exact R.fine p h
                  · rw [List.mem_singleton] at h; subst h; exact HF.out
                · rw [take_getD _ _ hlt, Hpe.out, List.pairwise_append]
                  refine ⟨R.apart, by simp, fun q hq r hr => ?_⟩
                  rw [List.mem_singleton] at hr; subst hr
                  obtain ⟨c, hc, rfl⟩ := List.mem_iff_getElem.1 hq
                  rw [List.length_take] at hc
                  have := Hno.out c (by omega)
                  rw [HPP.out, getD_p _ _ (by omega)] at this
                  rwa [List.getElem_take]
                · exact ((Hrowx.out.drewN _).set jn _).drew
                · rw [take_getD _ _ hlt, done_append, Hpe.out, ← R.done c hc]
                  simp only [WrapPlain.done, WrapPlain.len]
                  by_cases e : jn = c
                  · subst e
                    rw [ShareLaw.getD_set_eq _ _ _ (by rw [R.len]; exact hc), HDD.out, if_pos rfl]; omega
                  · rw [ShareLaw.getD_set_ne _ _ _ _ e, if_neg (by omega)]; omega
                · by_cases e : jn = c
                  · subst e
                    rw [ShareLaw.getD_set_eq _ _ _ (by rw [R.len]; exact hc), HT.out]; omega
                  · rw [ShareLaw.getD_set_ne _ _ _ _ e]; exact R.le c hc
                · exact (drewN_below Hbelx.out _).setCell (p := ⟨w.heap.size, jn, none⟩) (Nat.le_refl _) _
              case measure => simp only [intOf]; omega
      · have Hfine := Lib.hid hfine
        clear hfine
        go_wp2
        all_goals first
          | (go_ret2
             exact FitsRes.no (fun P => Hfine.out (P.fine _ Hmem.out)) (hbel.alloc hsz _))
          | (exfalso
             exact Hfine.out (by unfold WrapPlain.Fine; simp only; omega))
    · have hil : i = l.length := by have := R.hi; omega
      have ht : l.take i = l := by rw [hil]; exact List.take_length
      have h3 : decide (i < l.length) = false := by simp; omega
      have HR := Lib.hid R
      have Ht := Lib.hid ht
      have hrow := R.row
      have hDl := R.len
      have hbel := R.bel
      have Hrow := Lib.hid hrow
      have HDl := Lib.hid hDl
      have hgl := hrow.lt
      have hdn : ∀ k, k < times.length → D.getD k 0 = WrapPlain.done k l := fun k hk => by rw [R.done k hk, ht]
      have Hdn := Lib.hid hdn
      clear R ht hil hrow hDl hdn
      go_wp2
      obtain ⟨wq, hwq⟩ : ∃ wq : World, wq = wr := ⟨_, rfl⟩
      go_loop [144] (fun idx => ∃ k : Nat, idx = .int .i64 k ∧ k ≤ times.length ∧ ∀ j, j < k → D.getD j 0 = times.getD j 0) (fun j => times.length - (intOf j).toNat)
      case atStart => exact ⟨0, rfl, Nat.zero_le _, fun j hj => by omega⟩
      case round =>
        obtain ⟨k, rfl, hk, hall⟩ := hrel
        have Hall := Lib.hid hall
        clear hall
        rcases Nat.lt_or_ge k times.length with hlt2 | hge2
        · obtain ⟨bt, ot, rfl, hct⟩ := (hx.below hbel).open (by omega)
          have hctk := hct k hlt2
          have dk := Hrow.out.cell k (by rw [HDl.out]; exact hlt2)
          clear hct
          generalize hT : times.getD k 0 = tk at hctk
          generalize hDk : D.getD k 0 = d at dk
          have HT := Lib.hid hT
          have HDk := Lib.hid hDk
          clear hT hDk
          by_cases hne : d = tk
          · subst hne
            have hne0 : (d != d) = false := by simp
            go_wp2
            go_round
            case rel =>
              refine ⟨k + 1, by go_num, by omega, fun j hj => ?_⟩
              rcases Nat.lt_or_ge j k with h | h
              · exact Hall.out j h
              · obtain rfl : j = k := by omega
                rw [HDk.out, HT.out]
            case measure => simp only [intOf]; omega
          · have hne0 : (d != tk) = true := by simpa using hne
            have Hne := Lib.hid hne
            clear hne
            go_wp2
            go_ret2
            refine FitsRes.no (fun P => Hne.out ?_) hbel
            rw [← HDk.out, Hdn.out k hlt2, P.all k hlt2, HT.out]
        · obtain rfl : k = times.length := by omega
          have h4 : decide (times.length < times.length) = false := by simp
          go_wp2
          go_ret2
          refine ⟨true, rfl, ⟨fun _ => ⟨?_, ?_, fun k hk => ?_⟩, fun _ => rfl⟩, hbel⟩
          · have := HR.out.fine; rwa [Ht.out] at this
          · have := HR.out.apart; rwa [Ht.out] at this
          · rw [← Hdn.out k hk, Hall.out k hk]
end Go.Proofs.YtomgcfjdmoefgaaDoor
