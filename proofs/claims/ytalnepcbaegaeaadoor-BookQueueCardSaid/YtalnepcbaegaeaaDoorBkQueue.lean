/- WALK: the law BookQueue. -/
import Derived.Test.YtalnepcbaegaeaaDoorBkQLaw
import Derived.Test.YtalnepcbaegaeaaDoorSymEmpty
namespace Go.Proofs.YtalnepcbaegaeaaDoor
open Go Go.RowKit SimPlain HeapPlain BookPlain SymPlain

theorem EtOwn.toA {w : World} {B : Nat} {a : Option Addr} {c : Nat} {l : List Ev} (h : EtOwn w B a c l) : EvA w a l := by
  rcases Nat.eq_zero_or_pos l.length with h0 | h0
  · exact .inl (List.eq_nil_of_length_eq_zero h0)
  · obtain ⟨g, rfl, _, hg, hc⟩ := h.open h0
    exact .inr ⟨g, 0, rfl, hg, fun i hi => by simpa using hc i hi⟩
theorem EvA.num {w : World} {a : Option Addr} {l : List Ev} (h : EvA w a l) : EvA w a (num l) := by
  rcases h with h | ⟨b, off, rfl, hb, hc⟩
  · exact .inl (by rw [h]; rfl)
  · refine .inr ⟨b, off, rfl, hb, fun i hi => ?_⟩
    rw [num_length] at hi
    rw [num_getD l i hi]
    exact hc i hi
theorem chkI_num (l : List Ev) : chkI (num l) = chkI l := by
  have e : (num l).all okE = l.all okE := by
    rw [Bool.eq_iff_iff, List.all_eq_true, List.all_eq_true]
    constructor
    · intro h x hx
      obtain ⟨i, hi, rfl⟩ := List.mem_iff_getElem.1 hx
      have h1 := h ((num l).getD i e0) (getD_memE (by rw [num_length]; exact hi))
      rw [num_getD l i hi] at h1
      have e2 : l.getD i e0 = l[i] := by rw [List.getD_eq_getElem?_getD, List.getElem?_eq_getElem hi]; rfl
      rw [e2] at h1
      rw [okE_iff] at h1 ⊢; exact h1
    · intro h x hx
      obtain ⟨i, hi, rfl⟩ := List.mem_iff_getElem.1 hx
      rw [num_length] at hi
      have h1 := h (l.getD i e0) (getD_memE hi)
      have e2 : (num l).getD i e0 = (num l)[i]'(by rw [num_length]; exact hi) := by rw [List.getD_eq_getElem?_getD, List.getElem?_eq_getElem (by rw [num_length]; exact hi)]; rfl
      rw [← e2, num_getD l i hi]
      rw [okE_iff] at h1 ⊢; exact h1
  unfold chkI
  rw [num_length, e]
theorem num_bef (l : List Ev) : (num l).Pairwise Bef := by
  rw [List.pairwise_iff_getElem]
  intro i j hi hj hij
  rw [num_length] at hi hj
  simp only [num, List.getElem_mapIdx, Bef]
  omega
/-- what order.Sort tells -/
def SortedRes (l : List Ev) (w : World) (e : Ending) (w' : World) : Prop :=
  ∃ a n c, e = .returned (.tuple #[.slice a n c, errV 64 (chkI l)]) ∧ Below w.heap.size w w' ∧ (chkI l = 0 → ∃ W, W.length = n ∧ W.Perm (num l) ∧ W.Pairwise Lt ∧ EvA w' a W)
theorem Sort_any (l : List Ev) (a : Option Addr) (cap : Nat) (w : World) (hx : EvA w a l) (hl : l.length ≤ 9223372036854775807) (hnone : a = none → cap = 0) :
    Calls Tryd.prog 16 #[.slice a l.length cap] w fun e w' => SortedRes l w e w' := by
  by_cases hc : chkI l = 0
  · rcases Nat.eq_zero_or_pos l.length with h0 | h0
    · obtain rfl := List.eq_nil_of_length_eq_zero h0
      refine (Sort_empty a cap w hnone).mono ?_
      rintro e w' ⟨a', c, rfl, hb⟩
      exact ⟨a', 0, c, by rw [hc, errV_ok], hb, fun _ => ⟨[], rfl, List.Perm.refl _, List.Pairwise.nil, .inl rfl⟩⟩
    · have h := Sort_ok (num l) a cap w hx.num (by rw [chkI_num]; exact hc) (by rw [num_length]; exact h0) (num_bef l)
      rw [num_length] at h
      refine h.mono ?_
      rintro e w' ⟨g, c, W, rfl, hp, hs, hE, hb⟩
      exact ⟨_, W.length, c, by rw [hc, errV_ok], hb, fun _ => ⟨W, rfl, hp, hs, hE.toA⟩⟩
  · refine (Sort_bad l a cap w hx hl hc).mono ?_
    rintro e w' ⟨rfl, hb⟩
    exact ⟨none, 0, 0, rfl, hb, fun h => absurd h hc⟩
theorem chkI_of {l : List Ev} (h1 : l.length ≤ 60) (h2 : ∀ j, j < l.length → okE ⟨(l.getD j e0).t, (l.getD j e0).id, 0⟩ = true) : chkI l = 0 := by
  unfold chkI
  rw [if_neg (by omega), if_pos]
  rw [List.all_eq_true]
  intro x hx
  obtain ⟨i, hi, rfl⟩ := List.mem_iff_getElem.1 hx
  have h := h2 i hi
  have e2 : l.getD i e0 = l[i] := by rw [List.getD_eq_getElem?_getD, List.getElem?_eq_getElem hi]; rfl
  rw [e2] at h
  rw [okE_iff] at h ⊢; exact h
/-- what the loop of pushes keeps -/
def QRel (l : List Ev) (w w2 : World) (S i : Nat) (wr : World) : Prop :=
  (∀ j, j < i → okE ⟨(l.getD j e0).t, (l.getD j e0).id, 0⟩ = true) ∧ (∃ F, BookS wr w2.heap.size S F (pushAll (l.take i)) i) ∧ Below w.heap.size w wr ∧ Below w2.heap.size w2 wr
theorem QRel.next {l : List Ev} {w w2 wr w5 : World} {S i : Nat} {F : Nat → Prop} {key id : Int} (h : QRel l w w2 S i wr) (hww : w.heap.size ≤ w2.heap.size) (hi : i < l.length) (hk : key = (l.getD i e0).t) (hd : id = (l.getD i e0).id) (hok : okE ⟨key, id, 0⟩ = true)
    (hfb : ∀ k, F k → w2.heap.size ≤ k) (hS : BookS w5 w2.heap.size S (Grow F wr w5) (pushS (pushAll (l.take i)) ⟨key, id, 0⟩) (i + 1)) (o : Only wr w5 F) : QRel l w w2 S (i + 1) w5 := by
  obtain ⟨h1, _, h3, h4⟩ := h
  subst hk hd
  refine ⟨fun j hj => ?_, ⟨_, by rw [pushAll_snoc l i hi]; exact hS⟩, ?_, ?_⟩
  · rcases Nat.lt_or_ge j i with c | c
    · exact h1 j c
    · obtain rfl : j = i := by omega
      exact hok
  · exact ((only_of_below h3 (fun k => w.heap.size ≤ k)).trans o (fun k _ c => by have := hfb k c; omega)).below (Nat.le_refl _) (fun _ h => h)
  · exact ((only_of_below h4 (fun k => w2.heap.size ≤ k)).trans o (fun k _ c => hfb k c)).below (Nat.le_refl _) (fun _ h => h)
set_option maxRecDepth 100000 in
set_option maxHeartbeats 4000000 in
theorem BookQueue_walk (l : List Ev) (a0 : Option Addr) (cap0 : Nat) (w : World) (hx : EvA w a0 l) (hl : l.length ≤ 9223372036854775807) (htab : Tab w) (hnone : a0 = none → cap0 = 0) :
    Calls Tryd.prog 4 #[.slice a0 l.length cap0] w fun e w' => e = .returned (.bool true) ∧ Below w.heap.size w w' := by
  have HX := Lib.hid hx
  have HT := Lib.hid htab
  have HNo := Lib.hid hnone
  have htl := htab.lt
  obtain ⟨N, hN⟩ : ∃ N, N = l.length := ⟨_, rfl⟩
  have HN := Lib.hid hN
  have HSort : Hid (∀ W, Below w.heap.size w W → Calls Tryd.prog 16 #[.slice a0 N cap0] W fun e w' => SortedRes l W e w') := Lib.hid fun W hb => by
    rw [HN.out]; exact Sort_any l a0 cap0 W (HX.out.below hb) (by rw [← HN.out]; omega) HNo.out
  rw [← hN] at hl ⊢
  have HFact := Lib.hid (bookFact_any w htab)
  clear hx htab hnone hN
  go_enter Tryd.func4, Tryd.ntmps4
  go_wp2_with fail
  refine HFact.out.mono ?_
  rintro e w1 ⟨rfl, hb1⟩
  have HB1 := Lib.hid hb1
  clear hb1
  go_wp2_with fail
  refine (HSort.out w1 HB1.out).mono ?_
  rintro e w2 ⟨a, n, c, rfl, hb2, hso⟩
  have hb02 : Below w.heap.size w w2 := HB1.out.trans (hb2.mono HB1.out.size)
  have HB2 := Lib.hid hb02
  have HSo := Lib.hid hso
  have hw2 : w.heap.size ≤ w2.heap.size := hb02.size
  have HNew := Lib.hid (BNew_any w2)
  clear hb2 hso hb02
  obtain ⟨code, hcode⟩ : ∃ k, k = chkI l := ⟨_, rfl⟩
  rw [← hcode]
  have HCode := Lib.hid hcode
  clear hcode
  by_cases hc : code = 0
  · have hck : chkI l = 0 := by rw [← HCode.out]; exact hc
    rw [hc, errV_ok]
    obtain ⟨W, hW1, hW2, hW3, hW4⟩ := HSo.out hck
    have HW := Lib.hid (And.intro hW1 (And.intro hW2 (And.intro hW3 hW4)))
    have HW4 := Lib.hid hW4
    have HCk := Lib.hid (chkI_fine hck)
    clear hck hc HCode hW1 hW2 hW3 hW4
    go_wp2_with fail
    refine HNew.out.mono ?_
    rintro e w3 ⟨S, rfl, hq, hb3⟩
    have hQ0 : QRel l w w2 S 0 w3 := ⟨fun j hj => absurd hj (by omega), ⟨_, ⟨hq, by show (0 : Nat) ≤ 60; omega, by show (0 : Int) ≤ 0; omega, by show (0 : Int) ≤ 0; omega, by show (0 : Nat) ≤ _; omega⟩⟩, HB2.out.trans (hb3.mono hw2), hb3⟩
    have HQ0 := Lib.hid hQ0
    clear hq hb3 hQ0
    go_wp2
    go_loopw [7] (fun iv wr => ∃ i : Nat, iv = .int .i64 i ∧ i ≤ N ∧ QRel l w w2 S i wr) (fun iv _ => N - (intOf iv).toNat)
    case atStart => exact ⟨0, rfl, by omega, HQ0.out⟩
    case round =>
      obtain ⟨i, rfl, hiN, hQ⟩ := hrel
      have HQ := Lib.hid hQ
      obtain ⟨hq1, ⟨F, hS⟩, hq3, hq4⟩ := hQ
      have hN60 : N ≤ 60 := by rw [HN.out]; exact HCk.out.1
      have hTwo := (pushAll_two l i (by omega) (by rw [← HN.out]; exact hiN) hq1).1
      have hwr : w2.heap.size ≤ wr.heap.size := hq4.size
      have htw : Tab wr := HT.out.to hq3
      have hfb : ∀ k, F k → w2.heap.size ≤ k := fun k hk => (hS.book.fb k hk).1
      rcases Nat.lt_or_ge i N with hlt | hge
      · have hI : (i : Int) < (N : Int) := by omega
        have h60 : (i : Int) < 60 := by omega
        obtain ⟨b, off, rfl, hbl, hcs⟩ := HX.out.open (by have := HN.out; omega)
        obtain ⟨c0, c1⟩ := hcs i (by have := HN.out; omega)
        replace c0 := (hq3.cell (p := ⟨b, off + i * 2, none⟩) hbl).trans c0
        replace c1 := (hq3.cell (p := ⟨b, off + i * 2 + 1, none⟩) hbl).trans c1
        have hbl2 : b < wr.heap.size := by omega
        have hokx := HCk.out.2 (l.getD i e0) (getD_memE (by have := HN.out; omega))
        obtain ⟨key, hkey⟩ : ∃ k, k = (l.getD i e0).t := ⟨_, rfl⟩
        obtain ⟨id, hid⟩ : ∃ k, k = (l.getD i e0).id := ⟨_, rfl⟩
        have hok : okE ⟨key, id, 0⟩ = true := by rw [okE_iff] at hokx ⊢; rw [hkey, hid]; exact hokx
        rw [← hkey] at c0
        rw [← hid] at c1
        have hP := hS.push_any (by omega) hwr (by omega) htw key id
        have hpc : pcode (pushAll (l.take i)) ⟨key, id, 0⟩ = 0 := by
          unfold pcode
          rw [if_pos hok, if_pos]
          rw [hTwo.len, List.length_take, num_length]; omega
        rw [hpc, errV_ok] at hP
        have HP := Lib.hid hP
        have HNx : Hid (∀ w5, BookS w5 w2.heap.size S (Grow F wr w5) (pushS (pushAll (l.take i)) ⟨key, id, 0⟩) (i + 1) → Only wr w5 F → QRel l w w2 S (i + 1) w5) := Lib.hid fun w5 h5 o5 =>
          HQ.out.next hw2 (by have := HN.out; omega) hkey hid hok hfb h5 o5
        clear hcs hokx hkey hid hok hP hpc hTwo hS hq1 hq3 hq4 htw hfb
        go_wp2_with fail
        refine HP.out.mono ?_
        rintro e w5 ⟨rfl, hS5, o5⟩
        have HQ5 := Lib.hid (HNx.out w5 hS5 o5)
        clear hS5 o5
        go_wp2
        go_roundw
        case rel => exact ⟨i + 1, by go_num, by omega, HQ5.out⟩
        case measure => simp only [intOf]; omega
      · obtain rfl : i = N := by omega
        have hI : decide ((i : Int) < (i : Int)) = false := by simp
        have hI2 : decide (i < i) = false := by simp
        have hti : l.take i = l := List.take_of_length_le (by have := HN.out; omega)
        have hni : (num l).take i = num l := List.take_of_length_le (by rw [num_length]; have := HN.out; omega)
        rw [hti] at hS hTwo
        rw [hni] at hTwo
        obtain ⟨hW1, hW2, hW3, hW4⟩ := HW.out
        obtain ⟨q, hqd⟩ : ∃ q, q = (pushAll l).q := ⟨_, rfl⟩
        rw [← hqd] at hTwo
        have hqW : q = W := sorted_unique (hTwo.perm.trans hW2.symm) hTwo.sorted hW3
        have hqN : q.length = i := by rw [hTwo.len, num_length]; exact HN.out.symm
        have hnN : n = i := by rw [← hW1, ← hqW]; exact hqN
        have hDr := drained_any S w2.heap.size F (pushAll l).q (pushAll l).seq (pushAll l).T wr hS.book hS.many hwr (by omega) htw (by have := hS.txt; omega)
        rw [← hqd, hqN] at hDr
        have HDr := Lib.hid hDr
        have Hq4 := Lib.hid hq4
        have HQW := Lib.hid hqW
        have HQN := Lib.hid hqN
        have Hfb := Lib.hid hfb
        have Hq3 := Lib.hid hq3
        have hin : i ≤ 60 := hN60
        rw [hnN] at *
        clear hS hTwo hW1 hW2 hW3 hW4 hqd hqW hqN hnN hDr htw hfb hq1 hq3 hq4 hti hni
        go_wp2_with fail
        refine HDr.out.mono ?_
        rintro e w5 ⟨F5, T5, a5, c5, rfl, hD⟩
        have hb25 : Below w.heap.size w w5 := ((only_of_below Hq3.out (fun k => w.heap.size ≤ k)).trans hD.only (fun k _ c => by have := Hfb.out k c; omega)).below (Nat.le_refl _) (fun _ h => h)
        have hA5 : EvA w5 a W := HW4.out.below (((only_of_below Hq4.out (fun k => w2.heap.size ≤ k)).trans hD.only (fun k _ c => Hfb.out k c)).below (Nat.le_refl _) (fun _ h => h))
        have hIt := Items_same q W a5 a c5 c i w5 HQN.out.symm (by rw [← HQW.out]; exact HQN.out.symm) (by omega) hD.row.toA hA5 (fun j _ => by rw [HQW.out]; exact ⟨rfl, rfl⟩)
        have HIt := Lib.hid hIt
        have hM := fun m => BMany_any S w2.heap.size F5 [] (pushAll l).seq T5 (w5.drewN m) (hD.book.only ((Only.refl w5 (fun _ => False)).drewN m) (fun _ _ c => c)) (by simp)
        have HM := Lib.hid hM
        have HB5 := Lib.hid hb25
        clear hD hb25 hA5 hIt hM
        go_wp2_with fail
        refine HIt.out.mono ?_
        rintro e w6 ⟨rfl, m, rfl⟩
        go_wp2_with fail
        refine (HM.out m).mono ?_
        rintro e w7 ⟨rfl, rfl⟩
        go_wp2
        go_ret
        exact ⟨rfl, drewN_below HB5.out m⟩
  · rw [errV_bad hc]
    have HC := Lib.hid hc
    clear hc HSo
    go_wp2_with fail
    refine HNew.out.mono ?_
    rintro e w3 ⟨S, rfl, hq, hb3⟩
    have hQ0 : QRel l w w2 S 0 w3 := ⟨fun j hj => absurd hj (by omega), ⟨_, ⟨hq, by show (0 : Nat) ≤ 60; omega, by show (0 : Int) ≤ 0; omega, by show (0 : Int) ≤ 0; omega, by show (0 : Nat) ≤ _; omega⟩⟩, HB2.out.trans (hb3.mono hw2), hb3⟩
    have HQ0 := Lib.hid hQ0
    clear hq hb3 hQ0
    go_wp2
    go_loopw [7] (fun iv wr => ∃ i : Nat, iv = .int .i64 i ∧ i ≤ N ∧ i ≤ 60 ∧ QRel l w w2 S i wr) (fun iv _ => N - (intOf iv).toNat)
    case atStart => exact ⟨0, rfl, by omega, by omega, HQ0.out⟩
    case round =>
      obtain ⟨i, rfl, hiN, hi60, hQ⟩ := hrel
      have HQ := Lib.hid hQ
      obtain ⟨hq1, ⟨F, hS⟩, hq3, hq4⟩ := hQ
      have hTwo := (pushAll_two l i hi60 (by rw [← HN.out]; exact hiN) hq1).1
      have hwr : w2.heap.size ≤ wr.heap.size := hq4.size
      have htw : Tab wr := HT.out.to hq3
      have hfb : ∀ k, F k → w2.heap.size ≤ k := fun k hk => (hS.book.fb k hk).1
      rcases Nat.lt_or_ge i N with hlt | hge
      · have hI : (i : Int) < (N : Int) := by omega
        rcases Nat.lt_or_ge i 60 with h60 | h60
        · have h60 : (i : Int) < 60 := by omega
          obtain ⟨b, off, rfl, hbl, hcs⟩ := HX.out.open (by have := HN.out; omega)
          obtain ⟨c0, c1⟩ := hcs i (by have := HN.out; omega)
          replace c0 := (hq3.cell (p := ⟨b, off + i * 2, none⟩) hbl).trans c0
          replace c1 := (hq3.cell (p := ⟨b, off + i * 2 + 1, none⟩) hbl).trans c1
          have hbl2 : b < wr.heap.size := by omega
          obtain ⟨key, hkey⟩ : ∃ k, k = (l.getD i e0).t := ⟨_, rfl⟩
          obtain ⟨id, hid⟩ : ∃ k, k = (l.getD i e0).id := ⟨_, rfl⟩
          rw [← hkey] at c0
          rw [← hid] at c1
          have hP := hS.push_any (by omega) hwr (by omega) htw key id
          rcases Bool.eq_false_or_eq_true (okE ⟨key, id, 0⟩) with hok | hok
          · have hpc : pcode (pushAll (l.take i)) ⟨key, id, 0⟩ = 0 := by
              unfold pcode
              rw [if_pos hok, if_pos]
              rw [hTwo.len, List.length_take, num_length]; omega
            rw [hpc, errV_ok] at hP
            have HP := Lib.hid hP
            have HNx : Hid (∀ w5, BookS w5 w2.heap.size S (Grow F wr w5) (pushS (pushAll (l.take i)) ⟨key, id, 0⟩) (i + 1) → Only wr w5 F → QRel l w w2 S (i + 1) w5) := Lib.hid fun w5 h5 o5 =>
              HQ.out.next hw2 (by have := HN.out; omega) hkey hid hok hfb h5 o5
            clear hcs hkey hid hok hP hpc hTwo hS hq1 hq3 hq4 htw hfb
            go_wp2_with fail
            refine HP.out.mono ?_
            rintro e w5 ⟨rfl, hS5, o5⟩
            have HQ5 := Lib.hid (HNx.out w5 hS5 o5)
            clear hS5 o5
            go_wp2
            go_roundw
            case rel => exact ⟨i + 1, by go_num, by omega, by omega, HQ5.out⟩
            case measure => simp only [intOf]; omega
          · have hpc : pcode (pushAll (l.take i)) ⟨key, id, 0⟩ = 1 := by
              unfold pcode
              rw [if_neg (by rw [hok]; decide)]
            rw [hpc, errV_bad (by decide)] at hP
            have HP := Lib.hid hP
            have Hq3 := Lib.hid hq3
            have Hfb := Lib.hid hfb
            clear hcs hkey hid hok hP hpc hTwo hS hq1 hq3 hq4 htw hfb
            go_wp2_with fail
            refine HP.out.mono ?_
            rintro e w5 ⟨rfl, hS5, o5⟩
            have HB5 : Hid (Below w.heap.size w w5) := Lib.hid (((only_of_below Hq3.out (fun k => w.heap.size ≤ k)).trans o5 (fun k _ c => by have := Hfb.out k c; omega)).below (Nat.le_refl _) (fun _ h => h))
            clear hS5 o5
            go_wp2
            go_ret
            exact ⟨rfl, HB5.out⟩
        · have hI60 : (60 : Int) ≤ (i : Int) := by omega
          have hN60 : (60 : Int) < (N : Int) := by omega
          have Hq3 := Lib.hid hq3
          clear hTwo hS hq1 hq3 hq4 htw hfb
          go_wp2
          go_ret
          exact ⟨rfl, Hq3.out⟩
      · obtain rfl : i = N := by omega
        exfalso
        have hl60 : l.length ≤ 60 := by have := HN.out; omega
        exact HC.out (HCode.out.trans (chkI_of hl60 (fun j hj => hq1 j (by have := HN.out; omega))))
end Go.Proofs.YtalnepcbaegaeaaDoor
