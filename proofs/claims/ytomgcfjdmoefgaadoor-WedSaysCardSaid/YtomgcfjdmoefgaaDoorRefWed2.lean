/- WALKS: the document's Stable, Match. -/
import Derived.Test.YtomgcfjdmoefgaaDoorRefWed
import Derived.Test.YtomgcfjdmoefgaaDoorRefWedPlain
import Derived.Test.YtomgcfjdmoefgaaDoorWedLawsS
import Derived.Test.YtomgcfjdmoefgaaDoorOwnRow
import Derived.Deep.RegionLaw
import Derived.Deep.AppendLies
namespace Go.Proofs.YtomgcfjdmoefgaaDoor
open Go Go.RowKit WedPlain

theorem quiet_q {P : Program} {f : FuncId} {args : Array Value} {w : World} {q n : Nat} {v : Value}
    (h : Calls P f args (w.drewN (q + n)) fun e w' => e = .returned v ∧ w' = w.drewN (q + n)) : Calls P f args (w.drewN (q + n)) fun e w'' => e = .returned v ∧ ∃ m, w'' = w.drewN (q + m) :=
  h.mono fun _ _ ⟨he, hm⟩ => ⟨he, n, hm⟩

/-! ### Stable -/
def RStable (A B : List (List Int)) (m : List Int) (w : World) (e : Ending) (w' : World) : Prop :=
  ((e = .returned (.tuple #[.bool true, .slice none 0 0]) ∧ ∀ i k, i < A.length → k < A.length → ¬ badP A B m i k) ∨
    ∃ i k g : Nat, e = .returned (.tuple #[.bool false, .slice (some ⟨g, 0, none⟩) 2 2]) ∧ w.heap.size ≤ g ∧ Row w' g 3 [(i : Int), (k : Int)] ∧ i < A.length ∧ k < A.length ∧ badP A B m i k ∧ ∀ i' k', k' < A.length → (i' < i ∨ i' = i ∧ k' < k) → ¬ badP A B m i' k') ∧ Below w.heap.size w w'
set_option maxRecDepth 100000 in
set_option maxHeartbeats 4000000 in
theorem rstable_any (A B : List (List Int)) (m : List Int) (a b c : Option Addr) (cap cap' cap2 : Nat) (w : World) (hx : Mat w a A) (hy : Mat w b B) (hm : Ints w c m) (hf : FineW A B) (hA : AllOf A.length m) :
    Calls Tryd.prog 32 #[.slice a A.length cap, .slice b B.length cap', .slice c m.length cap2] w fun e w' => RStable A B m w e w' := by
  have hsm := hf.same
  have hsh := hf.short
  rw [hsm, hA.len]
  have Hsm := Lib.hid hsm
  have HA := Lib.hid hA
  have Hf := Lib.hid hf
  clear hsm hA hf
  go_enter Tryd.func32, Tryd.ntmps32
  go_wp2
  go_loopw [8] (fun i wr => ∃ j q : Nat, i = .int .i64 j ∧ j ≤ A.length ∧ (∀ i' k', i' < j → k' < A.length → ¬ badP A B m i' k') ∧ wr = w.drewN q) (fun i _ => A.length - (intOf i).toNat)
  case atStart => exact ⟨0, 0, rfl, Nat.zero_le _, fun i' k' h => by omega, rfl⟩
  case round =>
    obtain ⟨j, q, rfl, hj, hgood, rfl⟩ := hrel
    have Hgood := Lib.hid hgood
    clear hgood
    rcases Nat.lt_or_ge j A.length with hlt | hge
    · have hltI : (j : Int) < A.length := by omega
      go_wp2
      go_loopw [9] (fun i wx => ∃ k q : Nat, i = .int .i64 k ∧ k ≤ A.length ∧ (∀ k', k' < k → ¬ badP A B m j k') ∧ wx = w.drewN q) (fun i _ => A.length - (intOf i).toNat)
      case atStart => exact ⟨0, q, rfl, Nat.zero_le _, fun k' h => by omega, rfl⟩
      case round =>
        obtain ⟨k, q, rfl, hk, hgd, rfl⟩ := hrel
        have Hgd := Lib.hid hgd
        clear hgd
        rcases Nat.lt_or_ge k A.length with hkl | hkl
        · have hklI : (k : Int) < A.length := by omega
          have hkB : k < B.length := by have := Hsm.out; omega
          obtain ⟨b1, o1, a1, c1, rfl, x1, r1⟩ := mat_row hx Hf.out.a hlt
          obtain ⟨b2, o2, a2, c2, rfl, y1, r2⟩ := mat_row hy Hf.out.b hkB
          have hjm : j < m.length := by have := HA.out.len; omega
          obtain ⟨bm, om, rfl, hcm⟩ := hm.open (by omega)
          have m1 := hcm j hjm
          have hrg := HA.out.range _ (getD_memI hjm)
          obtain ⟨u, hu⟩ := Int.eq_ofNat_of_zero_le hrg.1
          rw [hu] at m1 hrg
          have hul : u < A.length := by omega
          have hlA := (Hf.out.a j hlt).len
          have hlB := (Hf.out.b k hkB).len
          have hv : m.idxOf (k : Int) < A.length := by
            have := List.idxOf_lt_length_of_mem (all_in HA.out k hkl)
            rw [HA.out.len] at this; exact this
          have h1 := rplace (A.getD j []) k (all_in (Hf.out.a j hlt) k hkl) a1 A.length c1 hlA.symm w r1 (by omega)
          have h2 := rplace (A.getD j []) u (all_in (Hf.out.a j hlt) u hul) a1 A.length c1 hlA.symm w r1 (by omega)
          have h3 := rplace (B.getD k []) j (all_in (Hf.out.b k hkB) j hlt) a2 A.length c2 hlB.symm w r2 (by omega)
          have h4 := rplace m k (all_in HA.out k hkl) (some ⟨bm, om, none⟩) A.length cap2 HA.out.len.symm w hm (by have := HA.out.len; omega)
          have h5 := rplace (B.getD k []) (m.idxOf (k : Int) : Nat) (all_in (Hf.out.b k hkB) _ hv) a2 A.length c2 hlB.symm w r2 (by omega)
          have hbad : badP A B m j k ↔ plc (A.getD j []) k < plc (A.getD j []) u ∧ plc (B.getD k []) j < plc (B.getD k []) (m.idxOf (k : Int)) := by
            unfold badP
            rw [hu]
            exact Iff.rfl
          unfold plc at hbad
          generalize (A.getD j []).idxOf (k : Int) = p1 at h1 hbad
          generalize (A.getD j []).idxOf (u : Int) = p2 at h2 hbad
          generalize (B.getD k []).idxOf (j : Int) = p3 at h3 hbad
          generalize (B.getD k []).idxOf ((m.idxOf (k : Int) : Nat) : Int) = p4 at h5 hbad
          generalize m.idxOf (k : Int) = v at h4 h5
          have H1 := Lib.hid h1
          have H2 := Lib.hid h2
          have H3 := Lib.hid h3
          have H4 := Lib.hid h4
          have H5 := Lib.hid h5
          have Hbad := Lib.hid hbad
          clear h1 h2 h3 h4 h5 hbad hcm hu hrg hv hjm hlA hlB r1 r2
          rcases Nat.lt_or_ge p1 p2 with g1 | g1
          · have g1I : (p1 : Int) < (p2 : Int) := by omega
            rcases Nat.lt_or_ge p3 p4 with g2 | g2
            · have g2I : (p3 : Int) < (p4 : Int) := by omega
              go_wp2
              go_quiet (first | (with_reducible exact quiet_q (H1.out _)) | (with_reducible exact quiet_q (H2.out _)) | (with_reducible exact quiet_q (H3.out _)) | (with_reducible exact quiet_q (H4.out _)) | (with_reducible exact quiet_q (H5.out _)))
              go_wp2
              go_ret2
              refine ⟨.inr ⟨j, k, _, rfl, ?_, ?_, hlt, hkl, Hbad.out.2 ⟨by omega, by omega⟩, fun i' k' a1 a2 => ?_⟩, ?_⟩
              · simp
              · exact heap_alloc_new _ _
              · rcases a2 with a2 | ⟨rfl, a2⟩
                · exact Hgood.out i' k' a2 a1
                · exact Hgd.out k' a2
              · exact (drewN_below (Below.refl _ _) _).alloc (Nat.le_refl _) _
            · have g2D : decide ((p3 : Int) < (p4 : Int)) = false := decide_eq_false (by omega)
              have g2N : decide (p3 < p4) = false := decide_eq_false (by omega)
              go_wp2
              go_quiet (first | (with_reducible exact quiet_q (H1.out _)) | (with_reducible exact quiet_q (H2.out _)) | (with_reducible exact quiet_q (H3.out _)) | (with_reducible exact quiet_q (H4.out _)) | (with_reducible exact quiet_q (H5.out _)))
              go_wp2
              go_roundw
              case rel =>
                refine ⟨k + 1, _, by go_num, by omega, fun k' h => ?_, by first | rfl | rw [World.drewN_drewN]⟩
                rcases Nat.lt_or_ge k' k with d | d
                · exact Hgd.out k' d
                · obtain rfl : k' = k := by omega
                  exact fun cc => by have := Hbad.out.1 cc; omega
              case measure => simp only [intOf]; omega
          · have g1D : decide ((p1 : Int) < (p2 : Int)) = false := decide_eq_false (by omega)
            have g1N : decide (p1 < p2) = false := decide_eq_false (by omega)
            go_wp2
            go_quiet (first | (with_reducible exact quiet_q (H1.out _)) | (with_reducible exact quiet_q (H2.out _)) | (with_reducible exact quiet_q (H3.out _)) | (with_reducible exact quiet_q (H4.out _)) | (with_reducible exact quiet_q (H5.out _)))
            go_wp2
            go_roundw
            case rel =>
              refine ⟨k + 1, _, by go_num, by omega, fun k' h => ?_, by first | rfl | rw [World.drewN_drewN]⟩
              rcases Nat.lt_or_ge k' k with d | d
              · exact Hgd.out k' d
              · obtain rfl : k' = k := by omega
                exact fun cc => by have := Hbad.out.1 cc; omega
            case measure => simp only [intOf]; omega
        · obtain rfl : A.length = k := by omega
          have h3 : decide (A.length < A.length) = false := by simp
          go_wp2
          go_roundw
          case rel =>
            refine ⟨j + 1, q, by go_num, by omega, fun i' k' h1 h2 => ?_, rfl⟩
            rcases Nat.lt_or_ge i' j with d | d
            · exact Hgood.out i' k' d h2
            · obtain rfl : i' = j := by omega
              exact Hgd.out k' h2
          case measure => simp only [intOf]; omega
    · obtain rfl : A.length = j := by omega
      have h3 : decide (A.length < A.length) = false := by simp
      go_wp2
      go_ret2
      exact ⟨.inl ⟨rfl, fun i k h1 h2 => Hgood.out i k h1 h2⟩, drewN_below (Below.refl _ _) _⟩

/-! ### Match -/
/-- whom each asks now -/
def rOf (A : List (List Int)) (asked : Nat → Nat) (k : Nat) : List Int := (List.range k).map fun i => ((aOf A i (asked i) : Nat) : Int)
theorem rOf_length (A : List (List Int)) (asked : Nat → Nat) (k : Nat) : (rOf A asked k).length = k := by simp [rOf]
theorem rOf_succ (A : List (List Int)) (asked : Nat → Nat) (k : Nat) : rOf A asked (k + 1) = rOf A asked k ++ [((aOf A k (asked k) : Nat) : Int)] := by simp [rOf, List.range_succ]
/-- what all loops keep -/
structure RMat (A B : List (List Int)) (w : World) (asked : Nat → Nat) (wr : World) : Prop where
  inv : RInv A.length (aOf A) (xOf A) (xOf B) asked
  row : wr.rowIs w.heap.size 3 A.length (fun i => .int .i64 (asked i))
  bel : Below w.heap.size w wr
theorem RMat.drewN {A B : List (List Int)} {w : World} {asked : Nat → Nat} {wr : World} (h : RMat A B w asked wr) (q : Nat) : RMat A B w asked (wr.drewN q) := ⟨h.inv, h.row, drewN_below h.bel q⟩
theorem RMat.get {A B : List (List Int)} {w : World} {asked : Nat → Nat} {wr : World} (h : RMat A B w asked wr) {a : Option Addr} (hx : Mat w a A) (hf : FineW A B) {i : Nat} (hi : i < A.length) :
    ∃ b1 o1 b2 o2 c1, a = some ⟨b1, o1, none⟩ ∧ wr.cell? ⟨b1, o1 + i, none⟩ = some (.slice (some ⟨b2, o2, none⟩) A.length c1) ∧ wr.cell? ⟨b2, o2 + asked i, none⟩ = some (.int .i64 (aOf A i (asked i) : Nat)) ∧ asked i < A.length ∧ aOf A i (asked i) < A.length := by
  have hroom := h.inv.room i hi
  obtain ⟨b1, o1, a1, c1, rfl, x1, r1⟩ := mat_row (hx.below h.bel) hf.a hi
  have hl := (hf.a i hi).len
  obtain ⟨b2, o2, rfl, hc⟩ := r1.open (by omega)
  have hv := hc (asked i) (by omega)
  obtain ⟨e1, e2⟩ := aOf_cast hf.a hi hroom
  rw [e1] at hv
  exact ⟨b1, o1, b2, o2, c1, rfl, x1, hv, hroom, e2⟩
theorem RMat.step {A B : List (List Int)} {w : World} {asked : Nat → Nat} {wr : World} (h : RMat A B w asked wr) (i : Nat) (hI : RInv A.length (aOf A) (xOf A) (xOf B) (up asked i (asked i + 1))) :
    RMat A B w (up asked i (asked i + 1)) (wr.setCell ⟨w.heap.size, i, none⟩ (.int .i64 ((asked i : Int) + 1))) :=
  ⟨hI, (h.row.set i (.int .i64 ((asked i : Int) + 1))).congr (fun q _ => by
    unfold up
    split
    · rename_i e; subst e; congr 1
    · rfl), h.bel.setCell (p := ⟨w.heap.size, i, none⟩) (Nat.le_refl _) _⟩
/-- the best of those below i who ask k -/
def BestK (A B : List (List Int)) (asked : Nat → Nat) (k i : Nat) (v : Value) : Prop :=
  (v = .int .i64 (-1) ∧ ∀ j, j < i → aOf A j (asked j) ≠ k) ∨ ∃ b : Nat, v = .int .i64 b ∧ b < i ∧ aOf A b (asked b) = k ∧ ∀ j, j < i → aOf A j (asked j) = k → xOf B k b ≤ xOf B k j
theorem BestK.all {A B : List (List Int)} {asked : Nat → Nat} {k i : Nat} {v : Value} (h : BestK A B asked k i v) : ∃ z : Int, v = .int .i64 z ∧ ∀ j, j < i → aOf A j (asked j) = k → ∃ b : Nat, z = b ∧ b < i ∧ aOf A b (asked b) = k ∧ xOf B k b ≤ xOf B k j := by
  rcases h with ⟨rfl, h⟩ | ⟨b, rfl, h1, h2, h3⟩
  · exact ⟨_, rfl, fun j hj e => absurd e (h j hj)⟩
  · exact ⟨_, rfl, fun j hj e => ⟨b, rfl, h1, h2, h3 j hj e⟩⟩
/-- whom k chose is z; those below i who asked it, too, ask another one now -/
structure Sift (A : List (List Int)) (asked asked2 asked3 : Nat → Nat) (k : Nat) (z : Int) (b2 b3 : Bool) (i : Nat) : Prop where
  above : ∀ j, i ≤ j → asked3 j = asked2 j
  best : ∀ b : Nat, z = b → asked3 b = asked2 b
  tot : tot asked A.length + (if b3 = true then 1 else 0) ≤ tot asked3 A.length
  still : b3 = false → b2 = false ∧ asked3 = asked
  done : b3 = false → ∀ j, j < i → aOf A j (asked j) = k → z = (j : Nat)

theorem rplaceX (B : List (List Int)) (k i n : Nat) (hB : Side n B) (hk : k < B.length) (hi : i < n) (a : Option Addr) (cap : Nat) (w : World) (hx : Ints w a (B.getD k [])) (hn : n ≤ 8) (m : Nat) :
    Calls Tryd.prog 66 #[.slice a n cap, .int .i64 i] (w.drewN m) fun e w' => e = .returned (.int .i64 (xOf B k i : Nat)) ∧ w' = w.drewN m :=
  rplace (B.getD k []) i (all_in (hB k hk) i hi) a n cap (hB k hk).len.symm w hx (by have := (hB k hk).len; omega) m

set_option maxRecDepth 100000 in
set_option maxHeartbeats 8000000 in
theorem rmatch_any (A B : List (List Int)) (a b : Option Addr) (cap cap' : Nat) (w : World) (hx : Mat w a A) (hy : Mat w b B) (hf : FineW A B) :
    Calls Tryd.prog 29 #[.slice a A.length cap, .slice b B.length cap'] w fun e w' => ∃ asked ao capo, e = .returned (.slice ao A.length capo) ∧ Own w' (w.heap.size + 1) 3 ao capo (rOf A asked A.length) ∧ Below w.heap.size w w' ∧ RInv A.length (aOf A) (xOf A) (xOf B) asked ∧ ∀ i j, i < A.length → j < A.length → aOf A i (asked i) = aOf A j (asked j) → i = j := by
  have hsm := hf.same
  have hsh := hf.short
  rw [hsm]
  have Hsm := Lib.hid hsm
  have Hf := Lib.hid hf
  have HL := Lib.hid (lists_of hf.a rfl)
  obtain ⟨i0, hi0, hz0, hz1, hz2⟩ := info_parts intInfo
  have hmk := fun w => run_make_row' (P := Tryd.prog) 22 3 (.int .i64 0) 8 Tryd.underlying22 (by kernel_rfl) rfl .i64 .i64 A.length (by omega) (by omega) w
  clear hsm hf
  go_enter Tryd.func29, Tryd.ntmps29
  go_wp2
  go_loopg [7] (A.length * A.length + 1) (fun gk again wr => ∃ (asked : Nat → Nat) (bb : Bool), again = .bool bb ∧ gk + tot asked A.length = A.length * A.length + (if bb = true then 1 else 0) ∧ RMat A B w asked wr ∧ (bb = false → ∀ i j, i < A.length → j < A.length → aOf A i (asked i) = aOf A j (asked j) → i = j))
  case atStart => exact ⟨fun _ => 0, true, rfl, by rw [tot_zero]; simp, ⟨RInv.start _ _ _, World.rowIs_made w (.int .i64 0) A.length 3, (Below.refl _ _).alloc (Nat.le_refl _) _⟩, fun h => by cases h⟩
  case round =>
    obtain ⟨asked, bb, rfl, hg, R, hinj⟩ := hrel
    have HR := Lib.hid R
    have Hg := Lib.hid hg
    have Hinj := Lib.hid hinj
    clear R hg hinj
    cases bb with
    | false =>
      have hsz := HR.out.row.lt
      have Hsz := Lib.hid hsz
      clear hsz
      go_wp2
      go_loopw [12, 13] (fun out ii wk => ∃ (i : Nat) (al : Option Addr) (capl : Nat), out = .slice al i capl ∧ ii = .int .i64 i ∧ i ≤ A.length ∧ Own wk (w.heap.size + 1) 3 al capl (rOf A asked i) ∧ RMat A B w asked wk) (fun _ ii _ => A.length - (intOf ii).toNat)
      case atStart => exact ⟨0, none, 0, rfl, rfl, Nat.zero_le _, Own.nil _ _ _, HR.out⟩
      case round =>
        obtain ⟨i, al, capl, rfl, rfl, hi, hO, R2⟩ := hrel
        rename World => wk
        rcases Nat.lt_or_ge i A.length with hil | hil
        · have hilI : (i : Int) < A.length := by omega
          obtain ⟨b1, o1, b3, o3, c1, rfl, x1, x2, hask, hau⟩ := R2.get hx Hf.out hil
          have x3 := R2.row.cell hil
          have hsz2 := R2.row.lt
          have hle := R2.bel.size
          have haskI : (asked i : Int) < A.length := by omega
          have hown : wk.ownsRow (w.heap.size + 1) 3 1 (.slice al i capl) i ((rOf A asked i).map (Value.int .i64)) := by
            have h1 := hO
            unfold Own at h1
            rw [rOf_length] at h1; exact h1
          have HR2 := Lib.hid R2
          have Hlt := Lib.hid (World.ownsRow.lt hown)
          have hsu := rOf_succ A asked i
          have post : Hid (∀ (u : Nat) (v2 : Value) (w2 : World), aOf A i (asked i) = u → (w2.ownsRow (w.heap.size + 1) 3 1 v2 (i + 1) ((rOf A asked i).map (Value.int .i64) ++ [.int .i64 u])) → (wk.alloc (.cells #[.int .i64 u] 3)).drew.grownBy w2 (Value.slice al i capl).ownBlock →
              ∃ a3 cap3, v2 = .slice a3 (i + 1) cap3 ∧ Own w2 (w.heap.size + 1) 3 a3 cap3 (rOf A asked (i + 1)) ∧ RMat A B w asked w2) := by
            refine Lib.hid fun u v2 w2 hu own2 gr2 => ?_
            obtain ⟨a3, cap3, hv3, O3⟩ := Own.of (xs := rOf A asked (i + 1)) (n := i + 1) (by rw [hsu, hu, List.map_append]; exact own2)
            refine ⟨a3, cap3, by rw [hv3, rOf_length], O3, HR2.out.inv, HR2.out.row.of_block ?_, (drewN_below (HR2.out.bel.alloc hle _) 1).grown gr2 (by show w.heap.size ≤ (wk.alloc _).heap.size; simp; omega) (fun kk e => by have := (Hlt.out kk e).1; omega)⟩
            have e1 := gr2.block w.heap.size (by show w.heap.size < (wk.alloc _).heap.size; simp; omega) (fun c => by have := (Hlt.out _ c.symm).1; omega)
            rw [e1]
            exact Below.heap_alloc wk _ _ hsz2
          clear R2 hO hsu
          generalize aOf A i (asked i) = u at *
          have hnew : ∀ (W : World) (t : TypeId) (g : Nat), g = W.heap.size → (W.alloc (.cells #[.int .i64 u] t)).heap[g]? = some (.cells #[.int .i64 u] t (0, 0)) := fun W t g hg => by
            subst hg
            exact heap_alloc_new _ _
          have Hnew := Lib.hid hnew
          clear hnew
          generalize rOf A asked i = l at *
          go_upto_region 25 with fail
          go_region_law
            ((refine step_append_lies _ (by rfl) _ _ _ (by rfl) (w.heap.size + 1) 3 i0 _ 1 8 Tryd.underlying22 hi0 hz0 hz1 hz2 rfl (by omega) (.slice al i capl) i (l.map (Value.int .i64)) (by rfl) (World.ownsRow.alloc (World.ownsRow.drew hown) _) ⟨wk.heap.size, 0, none⟩ 1 1 [.int .i64 u] (by rfl) (by rfl) (World.news_of_block (cs := #[.int .i64 u]) (t := 3) (fr := (0, 0)) (heap_alloc_new _ _)) (by simp [Value.oneCell']) (by omega) (by unfold maxLen; omega) (by omega) (by simp; omega) (wk.heap.size + 1) (by simp) ?_; intro gg cap2 w2 hown2 hgr hat hlt2; obtain ⟨a3, cap3, hsl, hO3, hR3⟩ := post.out _ _ w2 rfl hown2 hgr; have HO3 := Lib.hid hO3; have HR3 := Lib.hid hR3; have Hsl := Lib.hid hsl; clear hO3 hR3 hsl hown2 hgr hat hlt2))
          all_goals
            go_wp2
            go_roundw
            case rel => exact ⟨i + 1, a3, cap3, Hsl.out, by go_num, by omega, HO3.out, HR3.out⟩
            case measure => simp only [intOf]; omega
        · obtain rfl : A.length = i := by omega
          have h3 : decide (A.length < A.length) = false := by simp
          have HO := Lib.hid hO
          have HR2 := Lib.hid R2
          clear hO R2
          go_wp2
          go_ret
          exact ⟨asked, al, capl, rfl, HO.out, HR2.out.bel, HR2.out.inv, by first | exact Hinj.out rfl | exact Hinj.out trivial⟩
    | true =>
      have hgt : tot asked A.length + 1 ≤ A.length * A.length + 1 := by
        have := tot_le asked A.length A.length (fun i hi => Nat.le_of_lt (HR.out.inv.room i hi))
        omega
      go_wp2
      go_loopw [7, 8] (fun again kk wk => ∃ (asked2 : Nat → Nat) (b2 : Bool) (k : Nat), again = .bool b2 ∧ kk = .int .i64 k ∧ k ≤ A.length ∧ RMat A B w asked2 wk ∧ tot asked A.length + (if b2 = true then 1 else 0) ≤ tot asked2 A.length ∧ (b2 = false → asked2 = asked ∧ ∀ i j, i < A.length → j < A.length → aOf A i (asked i) = aOf A j (asked j) → aOf A i (asked i) < k → i = j)) (fun _ kk _ => A.length - (intOf kk).toNat)
      case atStart => exact ⟨asked, false, 0, rfl, rfl, Nat.zero_le _, HR.out, by simp, fun _ => ⟨rfl, fun i j _ _ _ h => by omega⟩⟩
      case round =>
        obtain ⟨asked2, b2, k, rfl, rfl, hk, R2, ht, hin⟩ := hrel
        rename World => wk
        have HR2 := Lib.hid R2
        have Ht := Lib.hid ht
        have Hin := Lib.hid hin
        clear R2 ht hin
        rcases Nat.lt_or_ge k A.length with hlt | hge
        · have hltI : (k : Int) < A.length := by omega
          have hkB : k < B.length := by have := Hsm.out; omega
          obtain ⟨bB, oB, a2, c2, rfl, y1, r2⟩ := mat_row (hy.below HR2.out.bel) Hf.out.b hkB
          have Hr2 := Lib.hid r2
          clear r2
          go_wp2
          go_loopw [9, 10] (fun best ii wx => ∃ i q : Nat, ii = .int .i64 i ∧ i ≤ A.length ∧ BestK A B asked2 k i best ∧ wx = wk.drewN q) (fun _ ii _ => A.length - (intOf ii).toNat)
          case atStart => exact ⟨0, 0, rfl, Nat.zero_le _, .inl ⟨rfl, fun j h => by omega⟩, rfl⟩
          case round =>
            obtain ⟨i, q, rfl, hi, hbest, rfl⟩ := hrel
            rcases Nat.lt_or_ge i A.length with hil | hil
            · have hilI : (i : Int) < A.length := by omega
              obtain ⟨b1, o1, b3, o3, c1, rfl, x1, x2, hask, hau⟩ := HR2.out.get hx Hf.out hil
              have x3 := HR2.out.row.cell hil
              have haskI : (asked2 i : Int) < A.length := by omega
              obtain ⟨u, hu⟩ : ∃ u, aOf A i (asked2 i) = u := ⟨_, rfl⟩
              rw [hu] at x2 hau
              have Hu := Lib.hid hu
              clear hu
              by_cases e : u = k
              · subst e
                have eB : ((u : Int) == (u : Int)) = true := by simp
                rcases hbest with ⟨rfl, hno⟩ | ⟨bb, rfl, hb1, hb2, hb3⟩
                · have Hno := Lib.hid hno
                  clear hno
                  have Hnew : Hid (BestK A B asked2 u (i + 1) (.int .i64 i)) := Lib.hid (.inr ⟨i, rfl, by omega, Hu.out, fun j hj ej => by
                    rcases Nat.lt_or_ge j i with c | c
                    · exact absurd ej (Hno.out j c)
                    · obtain rfl : j = i := by omega
                      exact Nat.le_refl _⟩)
                  go_wp2
                  go_quiet (fail)
                  go_wp2
                  go_roundw
                  case rel => exact ⟨i + 1, _, by go_num, by omega, Hnew.out, by first | rfl | rw [World.drewN_drewN]⟩
                  case measure => simp only [intOf]; omega
                · have hbl : bb < A.length := by omega
                  have h1 := rplaceX B u i A.length Hf.out.b hkB hil a2 c2 wk Hr2.out hsh
                  have h2 := rplaceX B u bb A.length Hf.out.b hkB hbl a2 c2 wk Hr2.out hsh
                  have Hb2 := Lib.hid hb2
                  have Hb3 := Lib.hid hb3
                  clear hb2 hb3
                  have hb0 : decide ((bb : Int) < 0) = false := decide_eq_false (by omega)
                  obtain ⟨p1, hp1⟩ : ∃ p, xOf B u i = p := ⟨_, rfl⟩
                  obtain ⟨p2, hp2⟩ : ∃ p, xOf B u bb = p := ⟨_, rfl⟩
                  rw [hp1] at h1
                  rw [hp2] at h2
                  have H1 := Lib.hid h1
                  have H2 := Lib.hid h2
                  have Hp1 := Lib.hid hp1
                  have Hp2 := Lib.hid hp2
                  clear h1 h2 hp1 hp2
                  rcases Nat.lt_or_ge p1 p2 with g1 | g1
                  · have g1I : (p1 : Int) < (p2 : Int) := by omega
                    have Hnew : Hid (BestK A B asked2 u (i + 1) (.int .i64 i)) := Lib.hid (.inr ⟨i, rfl, by omega, Hu.out, fun j hj ej => by
                      rcases Nat.lt_or_ge j i with c | c
                      · have := Hb3.out j c ej
                        have e1 := Hp1.out
                        have e2 := Hp2.out
                        omega
                      · obtain rfl : j = i := by omega
                        exact Nat.le_refl _⟩)
                    go_wp2
                    go_quiet (first | (with_reducible exact quiet_q (H1.out _)) | (with_reducible exact quiet_q (H2.out _)))
                    go_wp2
                    go_roundw
                    case rel => exact ⟨i + 1, _, by go_num, by omega, Hnew.out, by first | rfl | rw [World.drewN_drewN]⟩
                    case measure => simp only [intOf]; omega
                  · have g1D : decide ((p1 : Int) < (p2 : Int)) = false := decide_eq_false (by omega)
                    have g1N : decide (p1 < p2) = false := decide_eq_false (by omega)
                    have Hnew : Hid (BestK A B asked2 u (i + 1) (.int .i64 bb)) := Lib.hid (.inr ⟨bb, rfl, by omega, Hb2.out, fun j hj ej => by
                      rcases Nat.lt_or_ge j i with c | c
                      · exact Hb3.out j c ej
                      · obtain rfl : j = i := by omega
                        have e1 := Hp1.out
                        have e2 := Hp2.out
                        omega⟩)
                    go_wp2
                    go_quiet (first | (with_reducible exact quiet_q (H1.out _)) | (with_reducible exact quiet_q (H2.out _)))
                    go_wp2
                    go_roundw
                    case rel => exact ⟨i + 1, _, by go_num, by omega, Hnew.out, by first | rfl | rw [World.drewN_drewN]⟩
                    case measure => simp only [intOf]; omega
              · have eB : ((u : Int) == (k : Int)) = false := by rw [beq_eq_false_iff_ne]; omega
                obtain ⟨z, rfl, -⟩ := hbest.all
                have Hnew : Hid (BestK A B asked2 k (i + 1) (.int .i64 z)) := Lib.hid (by
                  have hne : ∀ j, j < i + 1 → aOf A j (asked2 j) = k → j < i := fun j hj ej => by
                    rcases Nat.lt_or_ge j i with c | c
                    · exact c
                    · obtain rfl : j = i := by omega
                      exact absurd (Hu.out.symm.trans ej) e
                  rcases hbest with ⟨hv, hno⟩ | ⟨bb, hv, hb1, hb2, hb3⟩
                  · exact .inl ⟨hv, fun j hj ej => hno j (hne j hj ej) ej⟩
                  · exact .inr ⟨bb, hv, by omega, hb2, fun j hj ej => hb3 j (hne j hj ej) ej⟩)
                clear e hbest
                go_wp2
                go_quiet (fail)
                go_wp2
                go_roundw
                case rel => exact ⟨i + 1, _, by go_num, by omega, Hnew.out, by first | rfl | rw [World.drewN_drewN]⟩
                case measure => simp only [intOf]; omega
            · obtain rfl : A.length = i := by omega
              have h3 : decide (A.length < A.length) = false := by simp
              obtain ⟨z, rfl, hz⟩ := hbest.all
              have Hz := Lib.hid hz
              clear hz hbest
              have hS : Sift A asked asked2 asked2 k z b2 b2 0 := ⟨fun _ _ => rfl, fun _ _ => rfl, Ht.out, fun h => ⟨h, (Hin.out h).1⟩, fun _ j h => by omega⟩
              have HS := Lib.hid hS
              clear hS
              go_wp2
              go_loopw [7, 11] (fun again ii wi => ∃ (asked3 : Nat → Nat) (b3 : Bool) (i : Nat), again = .bool b3 ∧ ii = .int .i64 i ∧ i ≤ A.length ∧ RMat A B w asked3 wi ∧ Sift A asked asked2 asked3 k z b2 b3 i) (fun _ ii _ => A.length - (intOf ii).toNat)
              case atStart => exact ⟨asked2, b2, 0, rfl, rfl, Nat.zero_le _, HR2.out.drewN q, HS.out⟩
              case round =>
                obtain ⟨asked3, b3, i, rfl, rfl, hi, R3, hS⟩ := hrel
                rename World => wi
                clear HS
                have HR3 := Lib.hid R3
                have HS := Lib.hid hS
                clear R3 hS
                rcases Nat.lt_or_ge i A.length with hil | hil
                · have hilI : (i : Int) < A.length := by omega
                  obtain ⟨b1, o1, b4, o4, c1, rfl, x1, x2, hask, hau⟩ := HR3.out.get hx Hf.out hil
                  have x3 := HR3.out.row.cell hil
                  have x4 := HR3.out.row.frozen i
                  have haskI : (asked3 i : Int) < A.length := by omega
                  obtain ⟨u, hu⟩ : ∃ u, aOf A i (asked3 i) = u := ⟨_, rfl⟩
                  rw [hu] at x2 hau
                  have Hu := Lib.hid hu
                  clear hu
                  by_cases e : u = k
                  · subst e
                    have eB : ((u : Int) == (u : Int)) = true := by simp
                    by_cases ez : (i : Int) = z
                    · subst ez
                      have ezB : ((i : Int) != (i : Int)) = false := by simp
                      have Hnew : Hid (Sift A asked asked2 asked3 u i b2 b3 (i + 1)) := Lib.hid ⟨fun j hj => HS.out.above j (by omega), HS.out.best, HS.out.tot, HS.out.still, fun hb j hj ej => by
                        rcases Nat.lt_or_ge j i with c | c
                        · exact HS.out.done hb j c ej
                        · omega⟩
                      go_wp2
                      go_quiet (fail)
                      go_wp2
                      go_roundw
                      case rel => exact ⟨asked3, b3, i + 1, rfl, by go_num, by omega, HR3.out.drewN _, Hnew.out⟩
                      case measure => simp only [intOf]; omega
                    · have ezB : ((i : Int) != z) = true := by rw [bne_iff_ne]; exact ez
                      have hst : RInv A.length (aOf A) (xOf A) (xOf B) (up asked3 i (asked3 i + 1)) := by
                        have hai := HS.out.above i (Nat.le_refl _)
                        have hu2 := Hu.out
                        obtain ⟨bz, hbz, z1, z2, z3⟩ := Hz.out i hil (by rw [← hai]; exact hu2)
                        have hbne : i ≠ bz := fun c => ez (by omega)
                        refine HR3.out.inv.step HL.out hil z1 hbne hu2 (by rw [HS.out.best bz hbz]; exact z2) ?_
                        have hne : xOf B u bz ≠ xOf B u i := fun c => hbne (xOf_inj Hf.out.b Hsm.out hlt z1 hil c).symm
                        omega
                      have Hnew : Hid (Sift A asked asked2 (up asked3 i (asked3 i + 1)) u z b2 true (i + 1)) := Lib.hid ⟨fun j hj => by rw [up_other _ _ _ _ (by omega)]; exact HS.out.above j (by omega), fun b hb => by rw [up_other _ _ _ _ (by omega)]; exact HS.out.best b hb, by
                        rw [tot_up _ _ _ hil]
                        have := HS.out.tot
                        simp only [if_true]
                        omega, fun h => Bool.noConfusion h, fun h => Bool.noConfusion h⟩
                      have HR4 := Lib.hid ((HR3.out.drewN 1).step i hst)
                      have Hst := Lib.hid hst
                      clear hst
                      go_wp2
                      go_quiet (fail)
                      have z1 : (wi.drewN nq).cell? ⟨w.heap.size, i, none⟩ = some (.int .i64 (asked3 i)) := x3
                      have z2 : (wi.drewN nq).frozen? ⟨w.heap.size, i, none⟩ = false := x4
                      have HR5 := Lib.hid ((HR3.out.drewN nq).step i Hst.out)
                      generalize wi.drewN nq = wq at *
                      go_wp2
                      go_roundw
                      case rel => exact ⟨_, true, i + 1, rfl, by go_num, by omega, HR5.out, Hnew.out⟩
                      case measure => simp only [intOf]; omega
                  · have eB : ((u : Int) == (k : Int)) = false := by rw [beq_eq_false_iff_ne]; omega
                    have Hnew : Hid (Sift A asked asked2 asked3 k z b2 b3 (i + 1)) := Lib.hid ⟨fun j hj => HS.out.above j (by omega), HS.out.best, HS.out.tot, HS.out.still, fun hb j hj ej => by
                      rcases Nat.lt_or_ge j i with c | c
                      · exact HS.out.done hb j c ej
                      · obtain rfl : j = i := by omega
                        have h1 := (HS.out.still hb).2
                        have h2 := Hu.out
                        rw [h1] at h2
                        exact absurd (h2.symm.trans ej) e⟩
                    clear e
                    go_wp2
                    go_quiet (fail)
                    go_wp2
                    go_roundw
                    case rel => exact ⟨asked3, b3, i + 1, rfl, by go_num, by omega, HR3.out.drewN _, Hnew.out⟩
                    case measure => simp only [intOf]; omega
                · obtain rfl : A.length = i := by omega
                  have Hend : Hid (b3 = false → asked3 = asked ∧ ∀ i j, i < A.length → j < A.length → aOf A i (asked i) = aOf A j (asked j) → aOf A i (asked i) < k + 1 → i = j) := Lib.hid fun hb => by
                    obtain ⟨h1, h2⟩ := HS.out.still hb
                    refine ⟨h2, fun i j hi hj ej hk1 => ?_⟩
                    rcases Nat.lt_or_ge (aOf A i (asked i)) k with c | c
                    · exact (Hin.out h1).2 i j hi hj ej c
                    · have e1 := HS.out.done hb i hi (by omega)
                      have e2 := HS.out.done hb j hj (by omega)
                      omega
                  go_wp2
                  go_roundw
                  case rel => exact ⟨asked3, b3, k + 1, rfl, by go_num, by omega, HR3.out, HS.out.tot, Hend.out⟩
                  case measure => simp only [intOf]; omega
        · obtain rfl : A.length = k := by omega
          have h3 : decide (A.length < A.length) = false := by simp
          go_wp2
          go_roundg (A.length * A.length + (if b2 = true then 1 else 0) - tot asked2 A.length)
          case measure =>
            have h1 := Ht.out
            have h2 := Hg.out
            cases b2 <;> simp at h1 h2 ⊢ <;> omega
          case rel =>
            refine ⟨asked2, b2, rfl, ?_, HR2.out, fun hb i j hi hj ej => ?_⟩
            · have := tot_le asked2 A.length A.length (fun i hi => Nat.le_of_lt (HR2.out.inv.room i hi))
              omega
            · obtain ⟨e1, e2⟩ := Hin.out hb
              rw [e1] at ej
              exact e2 i j hi hj ej (HL.out.lt i _ hi (HR.out.inv.room i hi))
end Go.Proofs.YtomgcfjdmoefgaaDoor
