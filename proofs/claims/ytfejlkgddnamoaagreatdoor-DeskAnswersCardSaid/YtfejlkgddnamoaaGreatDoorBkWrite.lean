/- WALKS: strconv.Itoa here; book.write. -/
import Derived.Test.YtfejlkgddnamoaaGreatDoorBkShelf
import Derived.Test.YtfejlkgddnamoaaGreatDoorBkBuild
import Derived.Test.YtfejlkgddnamoaaGreatDoorBkDoc
import Derived.Lib.ItoaMem
import Derived.Deep.RegionWith
set_option linter.unusedVariables false
set_option linter.unusedSimpArgs false
namespace Go.Proofs.YtfejlkgddnamoaaGreatDoor
open Go Go.RowKit Go.Sort BookPlain

/-- the library's table of powers lies as it should -/
def Tab (w : World) : Prop := Lib.TabIs Tryz.prog w "internal/strconv.uint64pow10" .u64 Lib.pow10Tab
theorem powNamed : Tryz.prog.globalNamed "internal/strconv.uint64pow10" = some 3 := by kernel_rfl
theorem Tab.lt {w : World} (h : Tab w) : 3 < w.heap.size := by
  unfold Tab Lib.TabIs World.var? at h
  rw [powNamed] at h
  rcases Nat.lt_or_ge 3 w.heap.size with c | c
  · exact c
  · simp [Array.getElem?_eq_none c] at h
theorem Tab.of_block {w w' : World} (h : Tab w) (hb : w'.heap[3]? = w.heap[3]?) : Tab w' := by
  unfold Tab Lib.TabIs World.var? at h ⊢
  rw [powNamed] at h ⊢
  simp only [Option.bind_some] at h ⊢
  rw [hb]; exact h
theorem Tab.below {w w' : World} {B : Nat} (h : Tab w) (hb : Below B w w') (hB : 3 < B) : Tab w' := h.of_block (hb.block _ hB)
theorem Tab.to {w w' : World} (h : Tab w) (hb : Below w.heap.size w w') : Tab w' := h.below hb h.lt
theorem Tab.only {w w' : World} {own : Nat → Prop} (h : Tab w) (o : Only w w' own) (hn : ¬ own 3) : Tab w' := h.of_block (o.block _ h.lt hn)
theorem below_grow (w : World) (k : Nat) (os : Array Obj) : Below w.heap.size w (grow (w.drewN k) os) := by
  refine ⟨rfl, rfl, rfl, ?_, fun j hj => ?_⟩
  · show w.heap.size ≤ (w.heap ++ os).size
    simp
  · show (w.heap ++ os)[j]? = w.heap[j]?
    rw [Array.getElem?_append_left hj]
theorem Itoa_any (n : Int) (h0 : -9223372036854775808 ≤ n) (h1 : n ≤ 9223372036854775807) (w : World) (htab : Tab w) :
    Calls Tryz.prog 23 #[.int .i64 n] w fun e w' => e = .returned (.string ⟨(Lib.itoa n).toArray⟩) ∧ Below w.heap.size w w' :=
  (sh_strconv_Itoa n h0 h1 w htab).mono fun e w' ⟨he, k, os, hw⟩ => ⟨he, by rw [hw]; exact below_grow w k os⟩

/-- a line as it is written -/
def lineB (s : List UInt8) : List UInt8 := s ++ 32 :: (Lib.itoa (sumB s : Nat) ++ [10])
theorem only_of_below {w w' : World} (h : Below w.heap.size w w') (own : Nat → Prop) : Only w w' own := ⟨h.os, h.tape, h.output, h.size, fun k hk _ => h.block k hk⟩
def WriteRes (S B : Nat) (hp sq v : Value) (T X : List UInt8) (w : World) (e : Ending) (w' : World) : Prop :=
  e = .returned (.tuple #[]) ∧ ∃ v', BkAt w' S hp sq (.pointer (some ⟨S, 2, none⟩)) v' ∧ TxtAt w' B v' (T ++ X) ∧ Only w w' (fun k => k = S ∨ v.ownBlock = some k) ∧ (∀ k, v'.ownBlock = some k → v.ownBlock = some k ∨ w.heap.size ≤ k)
set_option maxHeartbeats 2000000 in
set_option maxRecDepth 100000 in
theorem write_any (S B : Nat) (hp sq p v : Value) (T : List UInt8) (s : ByteArray) (w : World) (h : BkAt w S hp sq p v) (hpp : p = .pointer none ∨ p = .pointer (some ⟨S, 2, none⟩)) (hT : TxtAt w B v T)
    (hlen : T.length ≤ 1000000000) (hs : s.size ≤ 100000) (hB : B ≤ w.heap.size) (htab : Tab w) :
    Calls Tryz.prog 22 #[.pointer (some ⟨S, 0, none⟩), .string s] w fun e w' => WriteRes S B hp sq v T (lineB s.data.toList) w e w' := by
  have HS := Lib.hid (fun W => sum_any s W (by omega))
  have hn := sumAt_lt s.data.toList s.data.toList.length
  have hlt := h.lt
  have HI := Lib.hid (fun W hW => Itoa_any (sumB s.data.toList : Nat) (by omega) (by unfold sumB; omega) W hW)
  have HA := Lib.hid h
  have HT := Lib.hid hT
  have Htab := Lib.hid htab
  have Hpp := Lib.hid hpp
  obtain ⟨N, hN⟩ : ∃ N, N = Lib.itoa (sumB s.data.toList : Nat) := ⟨_, rfl⟩
  have hNl : N.length ≤ 21 := by rw [hN]; exact itoa_len _ (by omega) (by unfold sumB; omega)
  rw [← hN] at HI
  obtain ⟨X1, e1, z1⟩ := mk_list (s.data.toList ++ [32])
  obtain ⟨X2, e2, z2⟩ := mk_list (X1.data.toList ++ N)
  obtain ⟨X3, e3, z3⟩ := mk_list (X2.data.toList ++ [10])
  have hsl : s.data.toList.length = s.size := (Lib.size_eq s).symm
  have hx1 : X1.data.toList.length = X1.size := (Lib.size_eq X1).symm
  have hx2 : X2.data.toList.length = X2.size := (Lib.size_eq X2).symm
  have s1 : X1.size = s.size + 1 := by rw [z1, List.length_append, hsl]; rfl
  have s2 : X2.size = X1.size + N.length := by rw [z2, List.length_append, hx1]
  have s3 : X3.size = X2.size + 1 := by rw [z3, List.length_append, hx2]; rfl
  have r1 := cat_run (P := Tryz.prog) s ⟨#[32]⟩ X1 (by rw [e1]) (by show _ + 1 ≤ _; omega)
  have r2 := cat_run (P := Tryz.prog) X1 ⟨N.toArray⟩ X2 (by rw [e2]) (by rw [mk_size N]; omega)
  have r3 := cat_run (P := Tryz.prog) X2 ⟨#[10]⟩ X3 (by rw [e3]) (by show _ + 1 ≤ _; omega)
  have HX := Lib.hid (show X3.data.toList = lineB s.data.toList by rw [e3, e2, e1]; unfold lineB; rw [hN]; simp)
  have hX3 : X3.size ≤ 200000 := by omega
  clear h hT htab hpp e1 e2 e3 z1 z2 z3 hsl hx1 hx2 s1 s2 s3 hN
  have HF : Hid (∀ W, Only w W (fun _ => False) → Calls Tryz.prog 34 #[.pointer (some ⟨S, 2, none⟩), .string X3] W fun e w3 => e = .returned (.tuple #[.int .i64 X3.size, .nilIface]) ∧ WriteRes S B hp sq v T (lineB s.data.toList) w (.returned (.tuple #[])) w3) := Lib.hid fun W o => by
    have A : BkAt W S hp sq p v := (o.block S hlt (fun c => c)).trans HA.out
    have T2 : TxtAt W B v T := HT.out.same fun k hk => o.block k (HT.out.lt k hk).2 (fun c => c)
    refine (WriteString_any S B hp sq p v T X3 W A Hpp.out T2 (by omega) (Nat.le_trans hB o.size)).mono ?_
    rintro e w3 ⟨rfl, v', A3, T3, O3, F3⟩
    refine ⟨rfl, rfl, v', A3, by rw [← HX.out]; exact T3, ((o.mono (fun _ _ c => c.elim)).trans O3 (fun _ _ h => h)), fun k hk => (F3 k hk).imp_right (fun h => by have := o.size; omega)⟩
  go_enter Tryz.func22, Tryz.ntmps22
  go_region_with (first
    | (go_at_call 40; refine (HS.out _).mono ?_; rintro e w1 ⟨rfl, b1⟩; have HB1 := Lib.hid ((drewN_below (Below.refl w.heap.size w) 1).trans b1); clear b1)
    | (go_at_call 23; refine (HI.out _ (Htab.out.to HB1.out)).mono ?_; rintro e w2 ⟨rfl, b2⟩; have HO := Lib.hid ((only_of_below HB1.out (fun _ => False)).trans (only_of_below b2 (fun _ => False)) (fun _ _ h => h)); clear b2)
    | (go_at_call 34; refine (HF.out _ HO.out).mono ?_; rintro e w3 ⟨rfl, hp3⟩; have HP3 := Lib.hid hp3; clear hp3))
  all_goals
    go_wp2
    go_end0
    exact HP3.out
end Go.Proofs.YtfejlkgddnamoaaGreatDoor
