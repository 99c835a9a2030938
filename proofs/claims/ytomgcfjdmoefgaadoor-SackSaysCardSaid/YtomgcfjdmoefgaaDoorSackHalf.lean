/- WALKS: sack.Half. -/
import Derived.Test.YtomgcfjdmoefgaaDoorSackCut
namespace Go.Proofs.YtomgcfjdmoefgaaDoor
open Go Go.RowKit SackPlain
open SortPlain (asInts asInts_length)

theorem HalfG_no (l : List Gd) (room : Int) (a : Option Addr) (cap : Nat) (w : World) (hx : Goods w a l) (hl : l.length ≤ 9223372036854775807) (h : chkG l room ≠ 0) :
    Calls Tryd.prog 48 #[.slice a l.length cap, .int .i64 room] w fun e w' => e = .returned (.tuple #[.int .i64 0, .iface 81 (.int .i64 (chkG l room))]) ∧ Below w.heap.size w w' := by
  have H := Lib.hid h
  clear h
  go_enter Tryd.func48, Tryd.ntmps48
  go_wp2_with fail
  refine (CheckG_no l room a cap _ hx hl H.out).mono ?_
  rintro e w' ⟨rfl, b⟩
  go_wp2
  go_ret2
  exact ⟨rfl, b⟩

/-- the one good -/
def IsOne (l : List Gd) (room : Int) (k : Nat) (one : Int) : Prop := (one = 0 ∨ ∃ i, i < k ∧ wOf l i ≤ room ∧ vOf l i = one) ∧ 0 ≤ one ∧ ∀ i, i < k → wOf l i ≤ room → vOf l i ≤ one
theorem IsOne.no {l : List Gd} {room : Int} {k : Nat} {one : Int} (h : IsOne l room k one) (hk : room < wOf l k) : IsOne l room (k + 1) one := by
  refine ⟨?_, h.2.1, fun i hi hw => ?_⟩
  · rcases h.1 with e | ⟨i, h1, h2⟩
    · exact .inl e
    · exact .inr ⟨i, by omega, h2⟩
  · rcases Nat.lt_or_ge i k with c | c
    · exact h.2.2 i c hw
    · obtain rfl : i = k := by omega
      omega
theorem IsOne.yes {l : List Gd} {room : Int} {k : Nat} {one : Int} (h : IsOne l room k one) (hv : 0 ≤ vOf l k) (hk : wOf l k ≤ room) : IsOne l room (k + 1) (max one (vOf l k)) := by
  refine ⟨?_, by have := h.2.1; omega, fun i hi hw => ?_⟩
  · rcases Int.lt_or_le one (vOf l k) with c | c
    · exact .inr ⟨k, by omega, hk, by omega⟩
    · rw [show max one (vOf l k) = one by omega]
      rcases h.1 with e | ⟨i, h1, h2⟩
      · exact .inl e
      · exact .inr ⟨i, by omega, h2⟩
  · rcases Nat.lt_or_ge i k with c | c
    · have := h.2.2 i c hw; omega
    · obtain rfl : i = k := by omega
      omega

def fitsF (l : List Gd) (room : Int) (ord : List Nat) : List Nat := ord.filter fun i => decide (wOf l i ≤ room)
theorem fitsF_snoc_yes {l : List Gd} {room : Int} {ord : List Nat} {k : Nat} (h : k < ord.length) (hw : wOf l ord[k] ≤ room) : fitsF l room (ord.take (k + 1)) = fitsF l room (ord.take k) ++ [ord[k]] := by
  unfold fitsF
  rw [take_snoc ord k h, List.filter_append]; simp [hw]
theorem fitsF_snoc_no {l : List Gd} {room : Int} {ord : List Nat} {k : Nat} (h : k < ord.length) (hw : room < wOf l ord[k]) : fitsF l room (ord.take (k + 1)) = fitsF l room (ord.take k) := by
  unfold fitsF
  rw [take_snoc ord k h, List.filter_append]; simp; omega
theorem fitsF_split (l : List Gd) (room : Int) (ord : List Nat) (k : Nat) : fitsF l room ord = fitsF l room (ord.take k) ++ fitsF l room (ord.drop k) := by
  unfold fitsF
  rw [← List.filter_append, List.take_append_drop]
theorem fitsF_len (l : List Gd) (room : Int) (ord : List Nat) : (fitsF l room ord).length ≤ ord.length := List.length_filter_le _ _

/-- what Half tells -/
def HalfOut (l : List Gd) (room : Int) (w : World) (e : Ending) (w' : World) : Prop :=
  ∃ ord one some_, e = .returned (.tuple #[.int .i64 (max one some_), .nilIface]) ∧ GSort.Falls (dearR l) l.length ord ∧ HalfRes (wOf l) (vOf l) ord room some_ ∧ IsOne l room l.length one ∧ Below w.heap.size w w'
set_option maxRecDepth 100000 in
set_option maxHeartbeats 2000000 in
theorem HalfG_yes (l : List Gd) (room : Int) (a : Option Addr) (cap : Nat) (w : World) (hx : Goods w a l) (hf : FineG l room) :
    Calls Tryd.prog 48 #[.slice a l.length cap, .int .i64 room] w fun e w' => HalfOut l room w e w' := by
  have hs := hf.ok.short
  have r0 := hf.r0
  have r1 := hf.r1
  go_enter Tryd.func48, Tryd.ntmps48
  go_wp2_with fail
  refine (CheckG_yes l room a cap _ hx hf).mono ?_
  rintro e w0 ⟨rfl, b0⟩
  go_wp2
  obtain ⟨wo, rfl⟩ : ∃ wo : World, wo = w0 := ⟨_, rfl⟩
  go_loopw [7, 23] (fun on i wr => ∃ (k : Nat) (one : Int), i = .int .i64 k ∧ k ≤ l.length ∧ on = .int .i64 one ∧ IsOne l room k one ∧ one ≤ 1000 ∧ Below w.heap.size w wr)
    (fun _ i _ => l.length - (intOf i).toNat)
  case atStart => exact ⟨0, 0, rfl, Nat.zero_le _, rfl, ⟨.inl rfl, Int.le_refl _, fun i hi => by omega⟩, by decide, b0⟩
  case round =>
    obtain ⟨k, one, rfl, hk, rfl, hO, h1000, hb⟩ := hrel
    have hsz := hb.size
    have HO := Lib.hid hO
    have ho0 := hO.2.1
    clear hO
    rcases Nat.lt_or_ge k l.length with hlt | hge
    · obtain ⟨b, off, rfl, hbl, hc⟩ := hx.open (by omega)
      obtain ⟨d0, d1⟩ := (hc k hlt).below hb hbl
      have hr := wv_range hf.ok k
      have ew : (l.getD k g0).w = wOf l k := rfl
      have ev : (l.getD k g0).v = vOf l k := rfl
      rw [ew] at d0
      rw [ev] at d1
      clear hc ew ev
      have Hno := Lib.hid (fun h => HO.out.no (k := k) h)
      have Hyes := Lib.hid (fun h h2 => HO.out.yes (k := k) h h2)
      generalize hwk : wOf l k = wk at d0 hr Hno Hyes
      generalize hvk : vOf l k = vk at d1 hr Hyes
      clear hwk hvk
      rcases Int.lt_or_le room wk with hc | hc
      · go_wp2
        go_roundw
        case rel => exact ⟨k + 1, one, by go_num, by omega, rfl, Hno.out hc, h1000, hb.alloc hsz _⟩
        case measure => simp only [intOf]; omega
      · have hy := Hyes.out (by omega) hc
        have Hy := Lib.hid hy
        clear hy
        rcases Int.lt_or_le one vk with hm | hm
        · go_wp2
          go_roundw
          case rel => exact ⟨k + 1, vk, by go_num, by omega, rfl, by have := Hy.out; rwa [show max one vk = vk by omega] at this, by omega, hb.alloc hsz _⟩
          case measure => simp only [intOf]; omega
        · go_wp2
          go_roundw
          case rel => exact ⟨k + 1, one, by go_num, by omega, rfl, by have := Hy.out; rwa [show max one vk = one by omega] at this, h1000, hb.alloc hsz _⟩
          case measure => simp only [intOf]; omega
    · obtain rfl : l.length = k := by omega
      have h3 : decide (l.length < l.length) = false := by simp
      have hx1 := hx.below hb
      have Hb := Lib.hid hb
      clear hb
      go_wp2_with fail
      refine (dear_any l a cap _ hx1 hf.ok).mono ?_
      rintro e w1 ⟨ord, g, rfl, hg, hF, hrow, b1⟩
      have hol := hF.length
      have b01 := Hb.out.trans (b1.mono hsz)
      have hx2 := hx.below b01
      have HF := Lib.hid hF
      have Hol := Lib.hid hol
      have hgl := hrow.lt
      have hordlt : ∀ i ∈ ord, i < l.length := hF.lt
      clear hF hol hsz
      go_wp2
      go_loop [8, 9, 39] (fun so le i => ∃ k : Nat, i = .int .i64 k ∧ k ≤ l.length ∧ so = .int .i64 (S (vOf l) (fitsF l room (ord.take k))) ∧ le = .int .i64 (room - S (wOf l) (fitsF l room (ord.take k))) ∧ S (wOf l) (fitsF l room (ord.take k)) ≤ room)
        (fun _ _ i => l.length - (intOf i).toNat)
      case atStart => exact ⟨0, rfl, Nat.zero_le _, rfl, by show _ = Value.int .i64 (room - 0); rw [Int.sub_zero], r0⟩
      case round =>
        obtain ⟨k, rfl, hk, rfl, rfl, hroom⟩ := hrel
        have hfl := fitsF_len l room (ord.take k)
        have htl : (ord.take k).length = k := by rw [List.length_take, Hol.out]; omega
        have hwr := S_range (f := wOf l) (A := fitsF l room (ord.take k)) (c := 300) (fun i _ => by have := wv_range hf.ok i; omega)
        have hvr := S_range (f := vOf l) (A := fitsF l room (ord.take k)) (c := 1000) (fun i _ => by have := wv_range hf.ok i; omega)
        rw [htl] at hfl
        have hvr2 : S (vOf l) (fitsF l room (ord.take k)) ≤ 16000 := by omega
        obtain ⟨hv0, _⟩ := hvr
        obtain ⟨hw0, _⟩ := hwr
        rcases Nat.lt_or_ge k l.length with hlt | hge
        · have hko : k < ord.length := by rw [Hol.out]; exact hlt
          have c0 := hrow.cell k (by rw [asInts_length]; exact hko)
          rw [asInts_getD ord k hko] at c0
          have hio := hordlt _ (List.getElem_mem hko)
          obtain ⟨b, off, rfl, hbl, hc⟩ := hx2.open (by omega)
          obtain ⟨d0, d1⟩ := hc _ hio
          have hr := wv_range hf.ok ord[k]
          have ey := fun h => fitsF_snoc_yes (l := l) (room := room) hko h
          have en := fun h => fitsF_snoc_no (l := l) (room := room) hko h
          have esp := fitsF_split l room ord k
          have edr : fitsF l room (ord.drop k) = if wOf l ord[k] ≤ room then ord[k] :: fitsF l room (ord.drop (k + 1)) else fitsF l room (ord.drop (k + 1)) := by
            unfold fitsF
            rw [List.drop_eq_getElem_cons hko, List.filter_cons]; simp
          have ew : (l.getD ord[k] g0).w = wOf l ord[k] := rfl
          have ev : (l.getD ord[k] g0).v = vOf l ord[k] := rfl
          rw [ew] at d0
          rw [ev] at d1
          clear hc ew ev htl hfl
          have Hesp := Lib.hid esp
          clear esp
          generalize hi : ord[k] = i at c0 d0 d1 hr ey en edr hio
          have Hey := Lib.hid ey
          have Hen := Lib.hid en
          have Hedr := Lib.hid edr
          clear ey en edr hi
          generalize hF : fitsF l room (ord.take k) = F at hroom hv0 hvr2 hw0 Hey Hen Hesp
          generalize hSW : S (wOf l) F = SW at hroom hw0 ⊢
          generalize hSV : S (vOf l) F = SV at hv0 hvr2 ⊢
          generalize hWi : wOf l i = wi at d0 hr Hey Hen Hedr
          generalize hVi : vOf l i = vi at d1 hr
          have HSW := Lib.hid hSW
          have HSV := Lib.hid hSV
          have HWi := Lib.hid hWi
          have HVi := Lib.hid hVi
          clear hSW hSV hWi hVi hF
          have hil : (i : Int) < l.length := by omega
          rcases Int.lt_or_le (room - SW) wi with hlt2 | hle
          · rcases Int.lt_or_le room wi with hbig | hfit
            · go_wp2
              go_round
              case rel =>
                have e := Hen.out hbig
                exact ⟨k + 1, by go_num, by omega, by rw [e, HSV.out], by rw [e, HSW.out], by rw [e, HSW.out]; exact hroom⟩
              case measure => simp only [intOf]; omega
            · have hres : HalfRes (wOf l) (vOf l) ord room SV := by
                refine ⟨F, i :: fitsF l room (ord.drop (k + 1)), ?_, by rw [HSW.out]; exact hroom, HSV.out.symm, .inr ⟨i, _, rfl, by rw [HSW.out, HWi.out]; exact hlt2⟩⟩
                have := Hesp.out
                rw [Hedr.out, if_pos hfit] at this
                exact this
              have Hres := Lib.hid hres
              clear hres
              rcases Int.lt_or_le one SV with hm | hm
              · go_wp2
                go_ret2
                exact ⟨ord, one, SV, by rw [show max one SV = SV by omega]; rfl, HF.out, Hres.out, HO.out, b01⟩
              · go_wp2
                go_ret2
                exact ⟨ord, one, SV, by rw [show max one SV = one by omega]; rfl, HF.out, Hres.out, HO.out, b01⟩
          · go_wp2
            go_round
            case rel =>
              have e := Hey.out (by omega)
              exact ⟨k + 1, by go_num, by omega, by rw [e, S_append, S_cons, S_nil, HSV.out, HVi.out, Int.add_zero], by rw [e, S_append, S_cons, S_nil, HSW.out, HWi.out]; congr 1; omega, by rw [e, S_append, S_cons, S_nil, HSW.out, HWi.out]; omega⟩
            case measure => simp only [intOf]; omega
        · have hkn : k = ord.length := by rw [Hol.out]; omega
          have ht : ord.take k = ord := by rw [hkn, List.take_length]
          rw [ht] at hroom hv0 hvr2 ⊢
          have h3 : (l.length : Int) ≤ k := by omega
          have hres : HalfRes (wOf l) (vOf l) ord room (S (vOf l) (fitsF l room ord)) := ⟨fitsF l room ord, [], by simp [fitsF], hroom, rfl, .inl rfl⟩
          have Hres := Lib.hid hres
          clear hkn ht htl hfl hroom hw0 hres
          generalize S (vOf l) (fitsF l room ord) = SV at hv0 hvr2 Hres ⊢
          rcases Int.lt_or_le one SV with hm | hm
          · go_wp2
            go_ret2
            exact ⟨ord, one, SV, by rw [show max one SV = SV by omega]; rfl, HF.out, Hres.out, HO.out, b01⟩
          · go_wp2
            go_ret2
            exact ⟨ord, one, SV, by rw [show max one SV = one by omega]; rfl, HF.out, Hres.out, HO.out, b01⟩
end Go.Proofs.YtomgcfjdmoefgaaDoor
