/- WALKS: sack.Cut; the fact. -/
import Derived.Test.YtomgcfjdmoefgaaDoorSackDear
namespace Go.Proofs.YtomgcfjdmoefgaaDoor
open Go Go.RowKit SackPlain
open SortPlain (asInts asInts_length)

theorem CheckG_yes (l : List Gd) (room : Int) (a : Option Addr) (cap : Nat) (w : World) (hx : Goods w a l) (hf : FineG l room) :
    Calls Tryd.prog 42 #[.slice a l.length cap, .int .i64 room] w fun e w' => e = .returned .nilIface ∧ Below w.heap.size w w' :=
  (CheckG_any l room a cap w hx (by have := hf.ok.short; omega)).mono fun _ _ ⟨he, hw⟩ => ⟨by rw [he, fine_chkG hf]; rfl, hw⟩
theorem CheckG_no (l : List Gd) (room : Int) (a : Option Addr) (cap : Nat) (w : World) (hx : Goods w a l) (hl : l.length ≤ 9223372036854775807) (h : chkG l room ≠ 0) :
    Calls Tryd.prog 42 #[.slice a l.length cap, .int .i64 room] w fun e w' => e = .returned (.iface 81 (.int .i64 (chkG l room))) ∧ Below w.heap.size w w' :=
  (CheckG_any l room a cap w hx hl).mono fun _ _ ⟨he, hw⟩ => ⟨by rw [he, errV_bad h], hw⟩

theorem S_range {f : Nat → Int} {A : List Nat} {c : Int} (h : ∀ i ∈ A, 0 ≤ f i ∧ f i ≤ c) : 0 ≤ S f A ∧ S f A ≤ c * A.length := by
  induction A with
  | nil => simp [S_nil]
  | cons i A ih =>
    have h1 := ih fun j hj => h j (by simp [hj])
    have h2 := h i (by simp)
    have e : c * ((i :: A).length : Int) = c * A.length + c := by rw [List.length_cons, Int.natCast_succ, Int.mul_add, Int.mul_one]
    rw [S_cons, e]; omega
theorem take_snoc (ord : List Nat) (k : Nat) (h : k < ord.length) : ord.take (k + 1) = ord.take k ++ [ord[k]] := by
  rw [List.take_add_one, List.getElem?_eq_getElem h]; rfl
theorem S_take_snoc (f : Nat → Int) (ord : List Nat) (k : Nat) (h : k < ord.length) : S f (ord.take (k + 1)) = S f (ord.take k) + f ord[k] := by
  rw [take_snoc ord k h, S_append, S_cons, S_nil]; omega
theorem asInts_getD (ord : List Nat) (k : Nat) (h : k < ord.length) : (asInts ord).getD k 0 = (ord[k] : Nat) := by
  unfold asInts
  rw [List.getD_eq_getElem?_getD, List.getElem?_map, List.getElem?_eq_getElem h]; rfl

theorem results_tmp4 {fn : Func} {t u v x : Tmp} (h : fn.results = #[.tmp t, .tmp u, .tmp v, .tmp x]) (tmps : Array Value) (P : Program) (w : World) :
    (results fn tmps).run P w = .ok (.tuple #[tmps.getD t undef, tmps.getD u undef, tmps.getD v undef, tmps.getD x undef]) w := by
  simp [results, h]
theorem CutG_no (l : List Gd) (room : Int) (a : Option Addr) (cap : Nat) (w : World) (hx : Goods w a l) (hl : l.length ≤ 9223372036854775807) (h : chkG l room ≠ 0) :
    Calls Tryd.prog 46 #[.slice a l.length cap, .int .i64 room] w fun e w' => e = .returned (.tuple #[.int .i64 0, .int .i64 0, .int .i64 0, .iface 81 (.int .i64 (chkG l room))]) ∧ Below w.heap.size w w' := by
  have H := Lib.hid h
  clear h
  go_enter Tryd.func46, Tryd.ntmps46
  go_wp2_with fail
  refine (CheckG_no l room a cap _ hx hl H.out).mono ?_
  rintro e w' ⟨rfl, b⟩
  go_wp2
  (try simp only [Exit.inBlock, Exit.then])
  refine bodyPost_ret (results_tmp4 rfl _ _ _) rfl ?_
  exact ⟨rfl, b⟩

/-- what Cut tells -/
def CutOut (l : List Gd) (room : Int) (w : World) (e : Ending) (w' : World) : Prop :=
  ∃ ord whole part of_, e = .returned (.tuple #[.int .i64 whole, .int .i64 part, .int .i64 of_, .nilIface]) ∧ GSort.Falls (dearR l) l.length ord ∧ CutRes (wOf l) (vOf l) ord room whole part of_ ∧
    (0 ≤ whole ∧ whole ≤ 16000 ∧ 0 ≤ part ∧ part ≤ 300000 ∧ 1 ≤ of_ ∧ of_ ≤ 300) ∧ Below w.heap.size w w'
set_option maxHeartbeats 1000000 in
theorem CutG_yes (l : List Gd) (room : Int) (a : Option Addr) (cap : Nat) (w : World) (hx : Goods w a l) (hf : FineG l room) :
    Calls Tryd.prog 46 #[.slice a l.length cap, .int .i64 room] w fun e w' => CutOut l room w e w' := by
  have hs := hf.ok.short
  have r0 := hf.r0
  have r1 := hf.r1
  go_enter Tryd.func46, Tryd.ntmps46
  go_wp2_with fail
  refine (CheckG_yes l room a cap _ hx hf).mono ?_
  rintro e w0 ⟨rfl, b0⟩
  go_wp2_with fail
  refine (dear_any l a cap _ (hx.below b0) hf.ok).mono ?_
  rintro e w1 ⟨ord, g, rfl, hg, hF, hrow, b1⟩
  have hol := hF.length
  have b01 := b0.trans (b1.mono b0.size)
  have hx1 := hx.below b01
  have HF := Lib.hid hF
  have Hol := Lib.hid hol
  have hgl := hrow.lt
  have hordlt : ∀ i ∈ ord, i < l.length := hF.lt
  clear hF hol
  obtain ⟨wo, rfl⟩ : ∃ wo : World, wo = w1 := ⟨_, rfl⟩
  go_wp2
  go_loopw [1, 4, 21] (fun rm wh i wr => ∃ k : Nat, i = .int .i64 k ∧ k ≤ l.length ∧ wh = .int .i64 (S (vOf l) (ord.take k)) ∧ rm = .int .i64 (room - S (wOf l) (ord.take k)) ∧ S (wOf l) (ord.take k) ≤ room ∧ Below wo.heap.size wo wr)
    (fun _ _ i _ => l.length - (intOf i).toNat)
  case atStart => exact ⟨0, rfl, Nat.zero_le _, by rw [List.take_zero, S_nil], by rw [List.take_zero, S_nil, Int.sub_zero], by rw [List.take_zero, S_nil]; exact r0, Below.refl _ _⟩
  case round =>
    obtain ⟨k, rfl, hk, rfl, rfl, hroom, hb⟩ := hrel
    have hwr := S_range (f := wOf l) (A := ord.take k) (c := 300) (fun i _ => by have := wv_range hf.ok i; omega)
    have hvr := S_range (f := vOf l) (A := ord.take k) (c := 1000) (fun i _ => by have := wv_range hf.ok i; omega)
    have htl : (ord.take k).length = k := by rw [List.length_take, Hol.out]; omega
    rw [htl] at hvr hwr
    have hsz := hb.size
    rcases Nat.lt_or_ge k l.length with hlt | hge
    · have hko : k < ord.length := by rw [Hol.out]; exact hlt
      have c0 := (hrow.below hb hgl).cell k (by rw [asInts_length]; exact hko)
      rw [asInts_getD ord k hko] at c0
      have hio := hordlt _ (List.getElem_mem hko)
      obtain ⟨b, off, rfl, hbl, hc⟩ := hx1.open (by omega)
      obtain ⟨d0, d1⟩ := (hc _ hio).below hb hbl
      have hr := wv_range hf.ok ord[k]
      have e1 := S_take_snoc (wOf l) ord k hko
      have e2 := S_take_snoc (vOf l) ord k hko
      have ed : ord = ord.take k ++ ord[k] :: ord.drop (k + 1) := by rw [← List.drop_eq_getElem_cons hko, List.take_append_drop]
      have ew : (l.getD ord[k] g0).w = wOf l ord[k] := rfl
      have ev : (l.getD ord[k] g0).v = vOf l ord[k] := rfl
      rw [ew] at d0
      rw [ev] at d1
      clear hc ew ev htl
      have Hed := Lib.hid ed
      clear ed
      generalize hi : ord[k] = i at c0 d0 d1 hr e1 e2 hio Hed
      have E1 := Lib.hid e1
      have E2 := Lib.hid e2
      have HSW : ∀ x, S (wOf l) (ord.take k) = x → S (wOf l) (ord.take k) = x := fun _ h => h
      clear e1 e2 hi HSW
      generalize hSW : S (wOf l) (ord.take k) = SW at hwr hroom E1 ⊢
      generalize hSV : S (vOf l) (ord.take k) = SV at hvr E2 ⊢
      generalize hWi : wOf l i = wi at d0 hr E1
      generalize hVi : vOf l i = vi at d1 hr E2
      have HSW := Lib.hid hSW
      have HSV := Lib.hid hSV
      have HWi := Lib.hid hWi
      have HVi := Lib.hid hVi
      clear hSW hSV hWi hVi
      have hil : (i : Int) < l.length := by omega
      rcases Int.lt_or_le (room - SW) wi with hlt2 | hle
      · have hm := mul_range (x := vi) (y := room - SW) (by omega) (by omega) (by omega) (by omega)
        obtain ⟨hm1, hm2⟩ := hm
        go_wp2
        go_region
        all_goals
          go_wp2
          (try simp only [Exit.inBlock, Exit.then])
          refine bodyPost_ret (results_tmp4 rfl _ _ _) rfl ?_
          refine ⟨ord, SV, vi * (room - SW), wi, rfl, HF.out, ⟨ord.take k, i :: ord.drop (k + 1), Hed.out, by rw [HSW.out]; exact hroom, HSV.out.symm, .inr ⟨i, ord.drop (k + 1), rfl, by rw [HSW.out, HWi.out]; exact hlt2, by rw [HSW.out, HVi.out], HWi.out.symm⟩⟩, by omega, ?_⟩
          exact b01.trans (((hb.alloc hsz _).drew).mono b01.size)
      · go_wp2
        go_roundw
        case rel =>
          refine ⟨k + 1, by go_num, by omega, by rw [E2.out], by rw [E1.out]; congr 1; omega, by rw [E1.out]; omega, hb.alloc hsz _⟩
        case measure => simp only [intOf]; omega
    · have hkn : k = ord.length := by rw [Hol.out]; omega
      have ht : ord.take k = ord := by rw [hkn, List.take_length]
      rw [ht] at hroom hvr hwr ⊢
      have h3 : (l.length : Int) ≤ k := by omega
      have hvr' : S (vOf l) ord ≤ 16000 := by omega
      have Hroom := Lib.hid hroom
      obtain ⟨hv0, _⟩ := hvr
      clear hkn ht htl hroom hwr
      go_wp2
      (try simp only [Exit.inBlock, Exit.then])
      refine bodyPost_ret (results_tmp4 rfl _ _ _) rfl ?_
      exact ⟨ord, S (vOf l) ord, 0, 1, rfl, HF.out, ⟨ord, [], by simp, Hroom.out, rfl, .inl ⟨rfl, rfl, rfl⟩⟩, by omega, b01.trans (hb.mono b01.size)⟩
end Go.Proofs.YtomgcfjdmoefgaaDoor
