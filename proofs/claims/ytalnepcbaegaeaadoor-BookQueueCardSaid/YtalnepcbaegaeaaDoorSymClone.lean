/- WALK: slices.Clone of items that came in. -/
import Derived.Test.YtalnepcbaegaeaaDoorSymSort
import Derived.Test.YtalnepcbaegaeaaDoorBkItems
import Derived.Laws.Cover3
namespace Go.Proofs.YtalnepcbaegaeaaDoor
open Go Go.RowKit SimPlain HeapPlain SymPlain

theorem EvA.from {w : World} {b off : Nat} {l : List Ev} (hc : ∀ i, i < l.length → w.cell? ⟨b, off + i * 2, none⟩ = some (.int .i64 (l.getD i e0).t) ∧ w.cell? ⟨b, off + i * 2 + 1, none⟩ = some (.int .i64 (l.getD i e0).id)) :
    ∀ j u, (flat2 l)[j]? = some u → w.cell? ((⟨b, off, none⟩ : Addr).add j) = some u := by
  intro j u hu
  have hj : j < l.length * 2 := by
    rw [← flat2_length]
    rcases Nat.lt_or_ge j (flat2 l).length with h | h
    · exact h
    · rw [List.getElem?_eq_none h] at hu; cases hu
  have e1 : j / 2 * 2 + j % 2 = j := by omega
  have h3 := flat2_get l (j / 2) (j % 2) (by omega) (by omega)
  rw [e1, hu] at h3
  obtain ⟨k0, k1⟩ := hc (j / 2) (by omega)
  have ea : ((⟨b, off, none⟩ : Addr).add j) = ⟨b, off + j, none⟩ := by unfold Addr.add; split <;> simp_all
  rw [ea]
  rcases (show j % 2 = 0 ∨ j % 2 = 1 by omega) with h | h
  · rw [h] at h3
    rw [show off + j = off + j / 2 * 2 by omega, k0, h3]; rfl
  · rw [h] at h3
    rw [show off + j = off + j / 2 * 2 + 1 by omega, k1, h3]; rfl
theorem eql_slice_nil (w : World) (a : Addr) (l c : Nat) : (binOp .eql 22 (.slice (some a) l c) (.slice none 0 0)).run Tryd.prog w = .ok (.bool false) w := by
  simp only [binOp]
  simp [run_equal_slice_nil w 22 28 (some a) l c Tryd.underlying22]
set_option maxRecDepth 100000 in
theorem clone_any (l : List Ev) (b off cap N : Nat) (w : World) (hN : N = l.length) (h0 : 0 < N) (h60 : N ≤ 60) (hb : b < w.heap.size)
    (hc : ∀ i, i < l.length → w.cell? ⟨b, off + i * 2, none⟩ = some (.int .i64 (l.getD i e0).t) ∧ w.cell? ⟨b, off + i * 2 + 1, none⟩ = some (.int .i64 (l.getD i e0).id)) :
    Calls Tryd.prog 34 #[.slice (some ⟨b, off, none⟩) N cap] w
      fun e w' => ∃ g c, e = .returned (.slice (some ⟨g, 0, none⟩) N c) ∧ EtOwn w' w.heap.size (some ⟨g, 0, none⟩) c l ∧ Below w.heap.size w w' := by
  obtain ⟨i0, hi0, hz0, hz1, hz2⟩ := info_parts etInfo
  have hl2 : (flat2 l).length = N * 2 := by rw [flat2_length, hN]
  have HN := Lib.hid hN
  have HL := Lib.hid hl2
  have HF : Hid (∀ w', Below w.heap.size w w' → ∀ j u, (flat2 l)[j]? = some u → w'.cell? ((⟨b, off, none⟩ : Addr).add j) = some u) := Lib.hid fun w' hb' =>
    EvA.from fun i hi => ⟨(hb'.cell (p := ⟨b, off + i * 2, none⟩) hb).trans (hc i hi).1, (hb'.cell (p := ⟨b, off + i * 2 + 1, none⟩) hb).trans (hc i hi).2⟩
  have heq := eql_slice_nil w ⟨b, off, none⟩ N cap
  clear hc hN hl2
  go_enter Tryd.func34, Tryd.ntmps34
  have hW1 : Below w.heap.size w (w.alloc (.cells #[] 28)) := (Below.refl _ _).alloc (Nat.le_refl _) _
  have HW1 := Lib.hid hW1
  have hown0 : (w.alloc (.cells #[] 28)).ownsRow w.heap.size 28 2 (.slice (some ⟨w.heap.size, 0, none⟩) 0 0) 0 [] :=
    ⟨rfl, .inr ⟨w.heap.size, 0, #[], rfl, Nat.le_refl _, heap_alloc_new _ _, Nat.le_refl _, by unfold maxLen; omega, rfl, rfl⟩⟩
  have HOwn := Lib.hid hown0
  have hle1 : w.heap.size ≤ (w.alloc (.cells #[] 28)).heap.size := hW1.size
  have HLe := Lib.hid hle1
  have HNew := Lib.hid (HF.out _ hW1)
  have hres : Hid (∀ v' w', w'.ownsRow w.heap.size 28 2 v' (0 + N) ([] ++ flat2 l) → (w.alloc (.cells #[] 28)).grownBy w' (Value.slice (some ⟨w.heap.size, 0, none⟩) 0 0).ownBlock → ∃ g c, v' = .slice (some ⟨g, 0, none⟩) N c ∧ EtOwn w' w.heap.size (some ⟨g, 0, none⟩) c l ∧ Below w.heap.size w w') := Lib.hid fun v' w' o gr => by
    rw [List.nil_append] at o
    obtain ⟨a, c, rfl, hE⟩ := EtOwn.of o
    obtain ⟨g, rfl, _⟩ := hE.open (by rw [← HN.out]; exact h0)
    exact ⟨g, c, by rw [HN.out], hE, HW1.out.trans (grown_below gr HLe.out (fun k hk => by simp [Value.ownBlock] at hk; omega))⟩
  clear hW1 hown0 hle1
  go_wp2_with (at_builtin; refine wpList_append_own _ rfl (.tmp 5) (.tmp 6) 22 rfl w.heap.size 28 i0 (.agg #[.int .i64 0, .int .i64 0]) 2 16 Tryd.underlying22 hi0 hz0 hz1 hz2 rfl (by decide) (.slice (some ⟨w.heap.size, 0, none⟩) 0 0) 0 [] rfl HOwn.out ⟨b, off, none⟩ N cap (flat2 l) rfl HL.out HNew.out (one_cells2 _) (by unfold maxLen; omega) (by omega) HLe.out ?_; intro v2 w2 o2 g2 _; have HR := Lib.hid (hres.out v2 w2 o2 g2); clear o2 g2)
  go_ret
  obtain ⟨g, c, e1, e2, e3⟩ := HR.out
  exact ⟨g, c, by rw [e1]; rfl, e2, e3⟩
end Go.Proofs.YtalnepcbaegaeaaDoor
