/- PLAIN AND WALKS: the document's Times, Share, Load. -/
import Derived.Test.YtomgcfjdmoefgaaDoorRefJobs
import Derived.Test.YtomgcfjdmoefgaaDoorShareWalks3
namespace Go.Proofs.YtomgcfjdmoefgaaDoor
open Go Go.RowKit SharePlain PackPlain ShareLaw SortPlain

/-! ### plain: the first that is least -/
def pk (f : Nat → Int) : Nat → Nat
  | 0 => 0
  | i + 1 => if f i < f (pk f i) then i else pk f i
theorem pk_lt (f : Nat → Int) : ∀ i, 0 < i → pk f i < i
  | 0, h => by omega
  | 1, _ => by simp [pk]
  | i + 2, _ => by
    have := pk_lt f (i + 1) (by omega)
    rw [pk]; split <;> omega
theorem pk_first (f : Nat → Int) : ∀ i, (∀ j, j < i → f (pk f i) ≤ f j) ∧ ∀ j, j < pk f i → f (pk f i) < f j
  | 0 => ⟨fun j h => by omega, fun j h => by simp [pk] at h⟩
  | i + 1 => by
    obtain ⟨h1, h2⟩ := pk_first f i
    rw [pk]
    by_cases c : f i < f (pk f i)
    · rw [if_pos c]
      refine ⟨fun j hj => ?_, fun j hj => ?_⟩
      · rcases Nat.lt_or_ge j i with d | d
        · have := h1 j d; omega
        · obtain rfl : j = i := by omega
          exact Int.le_refl _
      · have := h1 j hj; omega
    · rw [if_neg c]
      refine ⟨fun j hj => ?_, h2⟩
      rcases Nat.lt_or_ge j i with d | d
      · exact h1 j d
      · obtain rfl : j = i := by omega
        omega
theorem leastIdx_first : ∀ (l : List Int) (j : Nat), j < leastIdx l → l.getD (leastIdx l) 0 < l.getD j 0
  | [], j, h => by simp [leastIdx] at h
  | [x], j, h => by simp [leastIdx] at h
  | x :: y :: l, j, h => by
    have ih := leastIdx_first (y :: l)
    have le := leastIdx_le (y :: l)
    unfold leastIdx at h ⊢
    by_cases c : x ≤ (y :: l).getD (leastIdx (y :: l)) 0
    · rw [if_pos c] at h; omega
    · rw [if_neg c] at h ⊢
      cases j with
      | zero => simp only [List.getD_cons_succ, List.getD_cons_zero]; omega
      | succ j => simp only [List.getD_cons_succ]; exact ih j (by omega)
theorem pk_least (f : Nat → Int) {m : Nat} (hm : 0 < m) : pk f m = leastIdx ((List.range m).map f) := by
  have hl : ((List.range m).map f).length = m := by simp
  have hg : ∀ j, j < m → ((List.range m).map f).getD j 0 = f j := fun j hj => by
    rw [List.getD_eq_getElem?_getD, List.getElem?_map, List.getElem?_range hj]; rfl
  have hlt := leastIdx_lt ((List.range m).map f) (by intro c; rw [c] at hl; simp at hl; omega)
  rw [hl] at hlt
  have hp := pk_lt f m hm
  obtain ⟨p1, p2⟩ := pk_first f m
  have q1 := leastIdx_le ((List.range m).map f) (pk f m) (by rw [hl]; exact hp)
  have q2 := leastIdx_first ((List.range m).map f)
  rw [hg _ hlt, hg _ hp] at q1
  rcases Nat.lt_trichotomy (pk f m) (leastIdx ((List.range m).map f)) with c | c | c
  · have := q2 _ c
    rw [hg _ hlt, hg _ hp] at this
    have := p1 _ hlt; omega
  · exact c
  · have := p2 _ c; omega

/-! ### plain: who does what, as the document says -/
def giveR (times : List Int) (m : Nat) : List Nat → List Int → List Int
  | [], on => on
  | i :: ord, on => giveR times m ord (on.set i (pk (fun c : Nat => loadA times on times.length c) m : Nat))
theorem giveR_length (times : List Int) (m : Nat) : ∀ (ord : List Nat) (on : List Int), (giveR times m ord on).length = on.length
  | [], _ => rfl
  | i :: ord, on => by rw [giveR, giveR_length]; simp
theorem loadA_set (times on : List Int) (i : Nat) (v c : Int) (hi : i < on.length) : ∀ k, loadA times (on.set i v) k c = loadA times on k c + (if i < k then (if v = c then times.getD i 0 else 0) - (if on.getD i 0 = c then times.getD i 0 else 0) else 0) := by
  intro k
  induction k with
  | zero => simp [loadA, revRange, loadL]
  | succ k ih =>
    rw [loadA_succ, loadA_succ, ih]
    by_cases e : k = i
    · subst e
      have h1 : (on.set k v).getD k 0 = v := by rw [List.getD_eq_getElem?_getD, List.getElem?_set_self hi]; rfl
      rw [h1, if_neg (Nat.lt_irrefl k), if_pos (Nat.lt_succ_self k)]
      omega
    · have h1 : (on.set i v).getD k 0 = on.getD k 0 := by rw [List.getD_eq_getElem?_getD, List.getElem?_set_ne (fun c => e c.symm), List.getD_eq_getElem?_getD]
      rw [h1]
      by_cases c : i < k
      · rw [if_pos c, if_pos (show i < k + 1 by omega)]; omega
      · rw [if_neg c, if_neg (show ¬ i < k + 1 by omega)]; omega
theorem giveR_eq (times : List Int) (m : Nat) (hm : 0 < m) : ∀ (ord : List Nat) (load out on : List Int), ord.Nodup → (∀ i ∈ ord, i < times.length) → on.length = times.length → out.length = times.length →
    load = (List.range m).map (fun c : Nat => loadA times on times.length c) → (∀ i ∈ ord, on.getD i 0 = -1) → (∀ j, j < times.length → j ∉ ord → on.getD j 0 = out.getD j 0) → giveR times m ord on = giveS times ord load out
  | [], load, out, on, _, _, h1, h2, _, _, h => by
    rw [giveR, giveS]
    exact list_eq_of_getD on out (by rw [h1, h2]) fun k hk => h k (by omega) (by simp)
  | i :: ord, load, out, on, hn, hlt, h1, h2, hload, hneg, hsame => by
    rw [List.nodup_cons] at hn
    have hi := hlt i (by simp)
    have hni := hneg i (by simp)
    rw [giveR, giveS]
    have hk := pk_least (fun c : Nat => loadA times on times.length c) hm
    have hp := pk_lt (fun c : Nat => loadA times on times.length c) m hm
    rw [← hload] at hk
    rw [hk]
    rw [hk] at hp
    refine giveR_eq times m hm ord _ _ _ hn.2 (fun x hx => hlt x (by simp [hx])) (by rw [List.length_set, h1]) (by rw [List.length_set, h2]) ?_ (fun x hx => ?_) (fun j hj hjn => ?_)
    · have hll : load.length = m := by rw [hload]; simp
      have hg : ∀ (g : Nat → Int) j, j < m → ((List.range m).map g).getD j 0 = g j := fun g j hj => by
        rw [List.getD_eq_getElem?_getD, List.getElem?_map, List.getElem?_range hj]; rfl
      refine list_eq_of_getD _ _ (by simp [hll]) fun j hj => ?_
      rw [List.length_set, hll] at hj
      rw [hg _ j hj, loadA_set times on i _ j (by omega), if_pos hi, if_neg (c := on.getD i 0 = (j : Int)) (by rw [hni]; omega)]
      by_cases e : j = leastIdx load
      · rw [e, List.getD_eq_getElem?_getD, List.getElem?_set_self (by rw [hll]; exact hp), if_pos rfl]
        have := hg (fun c : Nat => loadA times on times.length c) (leastIdx load) hp
        rw [← hload] at this
        simp only [Option.getD_some]
        rw [this]; omega
      · rw [List.getD_eq_getElem?_getD, List.getElem?_set_ne (fun c => e c.symm), if_neg (by omega)]
        have := hg (fun c : Nat => loadA times on times.length c) j hj
        rw [← hload, List.getD_eq_getElem?_getD] at this
        rw [this]; omega
    · have hxi : i ≠ x := fun c => hn.1 (by rw [c]; exact hx)
      rw [List.getD_eq_getElem?_getD, List.getElem?_set_ne hxi, ← List.getD_eq_getElem?_getD]
      exact hneg x (by simp [hx])
    · by_cases e : i = j
      · subst e
        rw [List.getD_eq_getElem?_getD, List.getD_eq_getElem?_getD, List.getElem?_set_self (by omega), List.getElem?_set_self (by omega)]
      · rw [List.getD_eq_getElem?_getD, List.getD_eq_getElem?_getD, List.getElem?_set_ne e, List.getElem?_set_ne e, ← List.getD_eq_getElem?_getD, ← List.getD_eq_getElem?_getD]
        refine hsame j hj ?_
        rw [List.mem_cons]
        rintro (c | c)
        · exact e c.symm
        · exact hjn c
theorem loadA_zero (times : List Int) (c : Nat) : ∀ k n, k ≤ n → loadA times (List.replicate n (-1)) k c = 0 := by
  intro k n
  induction k with
  | zero => intro _; simp [loadA, revRange, loadL]
  | succ k ih =>
    intro h
    rw [loadA_succ, ih (by omega), if_neg]
    · rfl
    · rw [List.getD_eq_getElem?_getD, List.getElem?_replicate, if_pos (by omega)]
      simp
theorem giveR_all (times : List Int) (m : Nat) (hm : 0 < m) (ord : List Nat) (hp : ord.Perm (List.range times.length)) : giveR times m ord (List.replicate times.length (-1)) = giveL times ord m := by
  unfold giveL
  refine giveR_eq times m hm ord _ _ _ (hp.nodup_iff.2 List.nodup_range) (fun i hi => List.mem_range.1 (hp.mem_iff.1 hi)) (by simp) (by simp) ?_ (fun i hi => ?_) (fun j hj hjn => absurd (hp.mem_iff.2 (List.mem_range.2 hj)) hjn)
  · refine list_eq_of_getD _ _ (by simp) fun j hj => ?_
    simp at hj
    rw [List.getD_eq_getElem?_getD, List.getD_eq_getElem?_getD, List.getElem?_map, List.getElem?_range hj, List.getElem?_replicate, if_pos hj]
    simp only [Option.map_some, Option.getD_some]
    exact (loadA_zero times j times.length times.length (Nat.le_refl _)).symm
  · have hi := List.mem_range.1 (hp.mem_iff.1 hi)
    rw [List.getD_eq_getElem?_getD, List.getElem?_replicate, if_pos hi]; rfl
theorem falls_unique {t : List Int} : ∀ {l l' : List Nat}, l.Perm l' → l.Pairwise (Bef t) → l'.Pairwise (Bef t) → l = l'
  | [], l', hp, _, _ => by rw [hp.nil_eq]
  | x :: l, [], hp, _, _ => absurd hp.length_eq (by simp)
  | x :: l, y :: l', hp, h, h' => by
    rw [List.pairwise_cons] at h h'
    have hxy : x = y := by
      have hx := hp.mem_iff.1 (show x ∈ x :: l by simp)
      have hy := hp.mem_iff.2 (show y ∈ y :: l' by simp)
      rcases List.mem_cons.1 hx with c | c
      · exact c
      rcases List.mem_cons.1 hy with d | d
      · exact d.symm
      exact absurd ((h.1 y d).trans (h'.1 x c)) Bef.irrefl
    subst hxy
    rw [falls_unique (hp.cons_inv) h.2 h'.2]

/-! ### walks -/
theorem rtimes_any (times : List Int) (mach : Int) (a : Option Addr) (cap : Nat) (w : World) (hx : Ints w a times) (hl : times.length ≤ 9223372036854775807) :
    Calls Tryd.prog 9 #[.slice a times.length cap, .int .i64 mach] w fun e w' => e = .returned (.int .i64 (chk times mach)) ∧ w = w' := by
  by_cases h1 : 16 < times.length
  · have e : chk times mach = 4 := by unfold chk; rw [if_pos h1]
    rw [e]
    clear e
    have h1' : (16 : Int) < times.length := by omega
    go_enter Tryd.func9, Tryd.ntmps9
    go_wp2
    go_ret
    exact ⟨rfl, rfl⟩
  have h1' : (times.length : Int) ≤ 16 := by omega
  by_cases h2 : mach < 1 ∨ 6 < mach
  · have e : chk times mach = 1 := by unfold chk; rw [if_neg h1, if_pos h2]
    rw [e]
    have H2 := Lib.hid h2
    clear e h1 h2
    go_enter Tryd.func9, Tryd.ntmps9
    go_wp2_with (go_at_call 55; refine (rin_no mach 1 6 H2.out _).mono ?_; rintro e w' ⟨rfl, rfl⟩)
    go_ret
    exact ⟨rfl, rfl⟩
  have r1 : 1 ≤ mach := by omega
  have r2 : mach ≤ 6 := by omega
  have hlen : times.length ≤ 16 := by omega
  clear h1 h2
  go_enter Tryd.func9, Tryd.ntmps9
  go_wp2_with (go_at_call 55; refine (rin_yes mach 1 6 r1 r2 _).mono ?_; rintro e w' ⟨rfl, rfl⟩)
  go_loop [5] (fun i => ∃ k : Nat, k ≤ times.length ∧ i = .int .i64 k ∧ ∀ j, j < k → 1 ≤ times.getD j 0 ∧ times.getD j 0 ≤ 1000) (fun i => times.length - (intOf i).toNat)
  case atStart => exact ⟨0, Nat.zero_le _, rfl, fun j hj => by omega⟩
  case round =>
    obtain ⟨k, hk, rfl, hall⟩ := hrel
    have Hall := Lib.hid hall
    clear hall
    rcases Nat.lt_or_ge k times.length with hlt | hge
    · obtain ⟨b, off, rfl, hc⟩ := hx.open (by omega)
      have hck := hc k hlt
      have hm := getD_mem times k hlt
      clear hc
      generalize hv : times.getD k 0 = v at hck hm
      have Hv := Lib.hid hv
      have Hm := Lib.hid hm
      clear hv hm
      by_cases hr : v < 1 ∨ 1000 < v
      · have Hr := Lib.hid hr
        clear hr
        go_wp2_with (go_at_call 55; refine (rin_no v 1 1000 Hr.out _).mono ?_; rintro e w' ⟨rfl, rfl⟩)
        go_ret
        refine ⟨?_, rfl⟩
        have : chk times mach = 1 := by
          have h0 : chk times mach ≠ 0 := fun c => by have := (chk_fine c).all v Hm.out; have := Hr.out; omega
          unfold chk at h0 ⊢
          rw [if_neg (by omega), if_neg (by omega)] at h0 ⊢
          split
          · rename_i c; rw [if_pos c] at h0; exact absurd rfl h0
          · rfl
        rw [this]; rfl
      · have v1 : 1 ≤ v := by omega
        have v2 : v ≤ 1000 := by omega
        clear hr
        go_wp2_with (go_at_call 55; refine (rin_yes v 1 1000 v1 v2 _).mono ?_; rintro e w' ⟨rfl, rfl⟩)
        go_round
        case rel =>
          refine ⟨k + 1, by omega, by go_num, fun j hj => ?_⟩
          rcases Nat.lt_or_ge j k with h | h
          · exact Hall.out j h
          · have : j = k := by omega
            subst this; rw [Hv.out]; exact ⟨v1, v2⟩
        case measure => simp only [intOf]; omega
    · have hkn : k = times.length := by omega
      have Hkn := Lib.hid hkn
      clear hkn
      have h3 : ((times.length : Nat) : Int) ≤ (k : Int) := by omega
      go_wp2
      go_ret
      refine ⟨?_, rfl⟩
      rw [fine_chk ⟨hlen, r1, r2, fun n hn => by obtain ⟨i, hi, rfl⟩ := mem_getD hn; exact Hall.out i (by rw [Hkn.out]; exact hi)⟩]; rfl

def minus (n k : Nat) : List Int := (List.range n).map fun j => if j < k then -1 else 0
theorem minus_set {n k : Nat} (hk : k < n) : (minus n k).set k (-1) = minus n (k + 1) := by
  refine list_eq_of_getD _ _ (by simp [minus]) fun j hj => ?_
  have hjn : j < n := by simpa [minus] using hj
  have hg : ∀ k, (minus n k).getD j 0 = if j < k then -1 else 0 := fun k => by
    unfold minus; rw [List.getD_eq_getElem?_getD, List.getElem?_map, List.getElem?_range hjn]; rfl
  rw [hg]
  by_cases e : k = j
  · subst e
    rw [List.getD_eq_getElem?_getD, List.getElem?_set_self (by simpa [minus] using hjn), if_pos (Nat.lt_succ_self _)]; rfl
  · rw [List.getD_eq_getElem?_getD, List.getElem?_set_ne e, ← List.getD_eq_getElem?_getD, hg]
    by_cases c : j < k
    · rw [if_pos c, if_pos (by omega)]
    · rw [if_neg c, if_neg (by omega)]
theorem minus_all (n : Nat) : minus n n = List.replicate n (-1) := by
  refine list_eq_of_getD _ _ (by simp [minus]) fun j hj => ?_
  have hjn : j < n := by simpa [minus] using hj
  unfold minus
  rw [List.getD_eq_getElem?_getD, List.getElem?_map, List.getElem?_range hjn, List.getD_eq_getElem?_getD, List.getElem?_replicate, if_pos hjn]
  simp [hjn]
theorem minus_zero (n : Nat) : minus n 0 = List.replicate n 0 := by
  refine list_eq_of_getD _ _ (by simp [minus]) fun j hj => ?_
  have hjn : j < n := by simpa [minus] using hj
  unfold minus
  rw [List.getD_eq_getElem?_getD, List.getElem?_map, List.getElem?_range hjn, List.getD_eq_getElem?_getD, List.getElem?_replicate, if_pos hjn]
  simp
/-- the order, its first k put back -/
def mixO (n : Nat) (z : List Int) (k : Nat) : List Int := (List.range n).map fun j : Nat => if j < k then (j : Int) else z.getD j 0
theorem mixO_set {n k : Nat} (z : List Int) (hk : k < n) : (mixO n z k).set k (k : Int) = mixO n z (k + 1) := by
  refine list_eq_of_getD _ _ (by simp [mixO]) fun j hj => ?_
  have hjn : j < n := by simpa [mixO] using hj
  have hg : ∀ k, (mixO n z k).getD j 0 = if j < k then (j : Int) else z.getD j 0 := fun k => by
    unfold mixO; rw [List.getD_eq_getElem?_getD, List.getElem?_map, List.getElem?_range hjn]; rfl
  rw [hg]
  by_cases e : k = j
  · subst e
    rw [List.getD_eq_getElem?_getD, List.getElem?_set_self (by simpa [mixO] using hjn), if_pos (Nat.lt_succ_self _)]; rfl
  · rw [List.getD_eq_getElem?_getD, List.getElem?_set_ne e, ← List.getD_eq_getElem?_getD, hg]
    by_cases c : j < k
    · rw [if_pos c, if_pos (by omega)]
    · rw [if_neg c, if_neg (by omega)]
theorem mixO_zero {n : Nat} (z : List Int) (h : z.length = n) : mixO n z 0 = z := by
  refine list_eq_of_getD _ _ (by simp [mixO, h]) fun j hj => ?_
  have hjn : j < n := by simpa [mixO] using hj
  unfold mixO
  rw [List.getD_eq_getElem?_getD, List.getElem?_map, List.getElem?_range hjn]; simp
theorem mixO_all (n : Nat) (z : List Int) : mixO n z n = asInts (List.range n) := by
  refine list_eq_of_getD _ _ (by simp [mixO, asInts]) fun j hj => ?_
  have hjn : j < n := by simpa [mixO] using hj
  unfold mixO asInts
  rw [List.getD_eq_getElem?_getD, List.getD_eq_getElem?_getD, List.getElem?_map, List.getElem?_map, List.getElem?_range hjn]; simp [hjn]
theorem mixO_length (n : Nat) (z : List Int) (k : Nat) : (mixO n z k).length = n := by simp [mixO]

/-- what the second loop keeps -/
structure RGive (times : List Int) (m : Nat) (ord : List Nat) (w : World) (O k : Nat) (B : Nat) (ao : Option Addr) (capo : Nat) (on : List Int) (wr : World) : Prop where
  row : Row wr O 3 on
  own : Own wr B 3 ao capo (asInts ord)
  bel : Below w.heap.size w wr
  len : on.length = times.length
  eq : giveR times m (ord.drop k) on = giveR times m ord (List.replicate times.length (-1))
  abs : ∀ j, j < times.length → -1 ≤ on.getD j 0 ∧ on.getD j 0 ≤ 6

set_option maxRecDepth 100000 in
set_option maxHeartbeats 2000000 in
theorem rgive_loop (times : List Int) (m : Nat) (long : Bool) (a : Option Addr) (cap : Nat) (w : World) (hx : Ints w a times) (hf : Fine times m) :
    Calls Tryd.prog 50 #[.slice a times.length cap, .int .i64 m, .bool long] w fun e w' => ∃ ord, ord.Perm (List.range times.length) ∧ (if long then Falls times times.length ord else ord = List.range times.length) ∧
      e = .returned (.slice (some ⟨w.heap.size, 0, none⟩) times.length times.length) ∧ Row w' w.heap.size 3 (giveR times m ord (List.replicate times.length (-1))) ∧ Below w.heap.size w w' := by
  have hs := hf.short
  have r1 := hf.r1
  have r2 := hf.r2
  have hall := hf.all
  have hmk := fun w => run_make_row' (P := Tryd.prog) 22 3 (.int .i64 0) 8 Tryd.underlying22 (by kernel_rfl) rfl .i64 .i64 times.length (by omega) (by omega) w
  have b0 : Below w.heap.size w (w.alloc (.cells (madeCells #[.int .i64 0] times.length) 3)) := (Below.refl _ _).alloc (Nat.le_refl _) _
  have HL := Lib.hid (longest_any times a cap _ (hx.below b0) hs)
  have hrow := Row.made w 3 times.length
  rw [← minus_zero] at hrow
  have HR0 := Lib.hid hrow
  have HB0 := Lib.hid b0
  clear hrow b0
  go_enter Tryd.func50, Tryd.ntmps50
  go_wp2_with fail
  refine HL.out.mono ?_
  rintro e w2 ⟨ord, ao, co, rfl, hF, hO, hb⟩
  have hOl : (asInts ord).length = times.length := by rw [asInts_length, hF.length]
  have HR1 := Lib.hid (HR0.out.below hb (by simp))
  have HB1 := Lib.hid (HB0.out.trans (hb.mono (by simp)))
  have HF := Lib.hid hF
  have HO := Lib.hid (hO.mono (B' := w.heap.size + 1) (by simp))
  have HOl := Lib.hid hOl
  clear hF hO hb hOl HL HR0 HB0
  go_wp2
  go_loopw [9] (fun i wr => ∃ k : Nat, i = .int .i64 k ∧ k ≤ times.length ∧ Row wr w.heap.size 3 (minus times.length k) ∧ Own wr (w.heap.size + 1) 3 ao co (if long then asInts ord else mixO times.length (asInts ord) k) ∧ Below w.heap.size w wr) (fun i _ => times.length - (intOf i).toNat)
  case atStart =>
    refine ⟨0, rfl, Nat.zero_le _, HR1.out, ?_, HB1.out⟩
    rw [mixO_zero _ HOl.out]
    have h := HO.out
    cases long <;> exact h
  case round =>
    obtain ⟨k, rfl, hk, hrow, hown, hbr⟩ := hrel
    rcases Nat.lt_or_ge k times.length with hlt | hge
    · have hml : (minus times.length k).length = times.length := by simp [minus]
      have c1 := hrow.cell k (by omega)
      have f1 := hrow.free k
      have hn1 := (hrow.set k (-1))
      rw [minus_set hlt] at hn1
      have hb1 := hbr.setCell (p := ⟨w.heap.size, k, none⟩) (Nat.le_refl _) (.int .i64 (-1))
      have ho1 := hown.below (p := ⟨w.heap.size, k, none⟩) (Nat.lt_succ_self _) (.int .i64 (-1))
      have hrlt := hrow.lt
      generalize (minus times.length k).getD k 0 = old at c1
      have hkI : (k : Int) < times.length := by omega
      cases long with
      | true =>
        simp only [if_true] at ho1
        have HN := Lib.hid hn1
        have HB := Lib.hid hb1
        have HO1 := Lib.hid ho1
        clear hrow hown hbr hn1 hb1 ho1 hml
        go_wp2
        go_roundw
        case rel => exact ⟨k + 1, by go_num, by omega, HN.out, HO1.out, HB.out⟩
        case measure => simp only [intOf]; omega
      | false =>
        simp only [Bool.false_eq_true, if_false] at ho1
        have hol := mixO_length times.length (asInts ord) k
        obtain ⟨h, rfl, h1, h2, h3, h4⟩ := ho1.open (by omega)
        have c2 := h3 k (by omega)
        have f2 := h4 k
        have hn2 := hn1.other (⟨h, k, none⟩ : Addr) (by show w.heap.size ≠ h; omega) (.int .i64 (k : Int))
        have ho2 := ho1.set k (k : Int)
        rw [mixO_set _ hlt] at ho2
        have hb2 := hb1.setCell (p := ⟨h, k, none⟩) (by show w.heap.size ≤ h; omega) (.int .i64 (k : Int))
        generalize (mixO times.length (asInts ord) k).getD k 0 = old2 at c2
        have hne : ¬ h = w.heap.size := by omega
        have HN := Lib.hid hn2
        have HB := Lib.hid hb2
        have HO1 := Lib.hid ho2
        clear hrow hown hbr hn1 hb1 ho1 hml hn2 ho2 hb2 h3 h4 hol
        go_wp2
        go_roundw
        case rel => exact ⟨k + 1, by go_num, by omega, HN.out, HO1.out, HB.out⟩
        case measure => simp only [intOf]; omega
    · obtain rfl : times.length = k := by omega
      have h3 : decide (times.length < times.length) = false := by simp
      obtain ⟨ordX, hX1, hX2, hX3⟩ : ∃ ordX : List Nat, ordX.Perm (List.range times.length) ∧ (if long then Falls times times.length ordX else ordX = List.range times.length) ∧ Own wr (w.heap.size + 1) 3 ao co (asInts ordX) := by
        cases long with
        | true => exact ⟨ord, HF.out.perm, HF.out, hown⟩
        | false => exact ⟨List.range times.length, List.Perm.refl _, rfl, by simp only [Bool.false_eq_true, if_false] at hown; rw [mixO_all] at hown; exact hown⟩
      rw [minus_all] at hrow
      have hXl : ordX.length = times.length := by rw [hX1.length_eq, List.length_range]
      have HX1 := Lib.hid hX1
      have HX2 := Lib.hid hX2
      have hG : RGive times m ordX w w.heap.size 0 (w.heap.size + 1) ao co (List.replicate times.length (-1)) wr := ⟨hrow, hX3, hbr, by simp, by rw [List.drop_zero], fun j hj => by rw [List.getD_eq_getElem?_getD, List.getElem?_replicate, if_pos hj]; simp⟩
      have HG := Lib.hid hG
      have HXl := Lib.hid hXl
      clear hX1 hX2 hX3 hrow hown hbr hG hXl HO HOl HF HR1 HB1
      go_wp2
      go_loopw [10] (fun i wr => ∃ (k : Nat) (on : List Int), i = .int .i64 k ∧ k ≤ times.length ∧ RGive times m ordX w w.heap.size k (w.heap.size + 1) ao co on wr) (fun i _ => times.length - (intOf i).toNat)
      case atStart => exact ⟨0, _, rfl, Nat.zero_le _, HG.out⟩
      case round =>
        obtain ⟨k, on, rfl, hk, R⟩ := hrel
        rcases Nat.lt_or_ge k times.length with hlt | hge
        · have HR := Lib.hid R
          have hon := R.len
          have hhas := fun c : Int => has_any times on c a (some ⟨w.heap.size, 0, none⟩) cap times.length wr (hx.below R.bel) R.row.ints (by omega) R.len (fun t ht => by have := hall t ht; omega)
          have HH := Lib.hid hhas
          clear R hhas hon
          go_wp2
          go_loop [11, 12] (fun b i => ∃ q : Nat, i = .int .i64 q ∧ 1 ≤ q ∧ q ≤ m ∧ b = .int .i64 (pk (fun c : Nat => loadA times on times.length c) q : Nat)) (fun _ i => m - (intOf i).toNat)
          case atStart => exact ⟨1, rfl, by omega, by omega, by simp [pk]⟩
          case round =>
            obtain ⟨q, rfl, hq, hqm, rfl⟩ := hrel
            have hpl := pk_lt (fun c : Nat => loadA times on times.length c) q (by omega)
            rcases Nat.lt_or_ge q m with hqlt | hqge
            · have hpk : pk (fun c : Nat => loadA times on times.length c) (q + 1) = if loadA times on times.length q < loadA times on times.length (pk (fun c : Nat => loadA times on times.length c) q : Nat) then q else pk (fun c : Nat => loadA times on times.length c) q := rfl
              have hqI : (q : Int) < m := by omega
              have H1 := Lib.hid (HH.out (q : Int))
              have H2 := Lib.hid (HH.out ((pk (fun c : Nat => loadA times on times.length c) q : Nat) : Int))
              generalize pk (fun c : Nat => loadA times on times.length c) q = p at *
              generalize loadA times on times.length (q : Int) = u at *
              generalize loadA times on times.length (p : Int) = v at *
              have HP := Lib.hid hpk
              clear hpk
              rcases Int.lt_or_le u v with huv | huv
              · go_wp2_with fail
                refine H1.out.mono ?_
                rintro e w3 ⟨rfl, rfl⟩
                go_wp2_with fail
                refine H2.out.mono ?_
                rintro e w3 ⟨rfl, rfl⟩
                go_wp2
                go_round
                case rel => exact ⟨q + 1, by go_num, by omega, by omega, by rw [HP.out, if_pos huv]⟩
                case measure => simp only [intOf]; omega
              · go_wp2_with fail
                refine H1.out.mono ?_
                rintro e w3 ⟨rfl, rfl⟩
                go_wp2_with fail
                refine H2.out.mono ?_
                rintro e w3 ⟨rfl, rfl⟩
                go_wp2
                go_round
                case rel => exact ⟨q + 1, by go_num, by omega, by omega, by rw [HP.out, if_neg (by omega)]⟩
                case measure => simp only [intOf]; omega
            · obtain rfl : m = q := by omega
              have h4 : decide (m < m) = false := by simp
              have R := HR.out
              have hXl := HXl.out
              have hal : (asInts ordX).length = times.length := by rw [asInts_length, hXl]
              obtain ⟨h, rfl, h1, h2, h5, h6⟩ := R.own.open (by omega)
              have c2 := h5 k (by omega)
              have hk2 : k < ordX.length := by omega
              have hget : (asInts ordX).getD k 0 = (ordX[k] : Int) := by unfold asInts; rw [List.getD_eq_getElem?_getD, List.getElem?_map, List.getElem?_eq_getElem hk2]; rfl
              rw [hget] at c2
              have ho : ordX[k] < times.length := List.mem_range.1 (HX1.out.mem_iff.1 (List.getElem_mem hk2))
              have hst : giveR times m (ordX.drop (k + 1)) (on.set ordX[k] (pk (fun c : Nat => loadA times on times.length c) m : Nat)) = giveR times m ordX (List.replicate times.length (-1)) := by
                rw [← R.eq, List.drop_eq_getElem_cons hk2]; rfl
              have habs := R.abs
              have hlen := R.len
              have hrow := R.row
              generalize ordX[k] = o at *
              generalize pk (fun c : Nat => loadA times on times.length c) m = p at *
              have c3 := hrow.cell o (by omega)
              have f3 := hrow.free o
              have hN : RGive times m ordX w w.heap.size (k + 1) (w.heap.size + 1) (some ⟨h, 0, none⟩) co (on.set o (p : Int)) (wr.setCell ⟨w.heap.size, o, none⟩ (.int .i64 (p : Int))) := by
                refine ⟨hrow.set o _, R.own.below (p := ⟨w.heap.size, o, none⟩) (Nat.lt_succ_self _) _, R.bel.setCell (p := ⟨w.heap.size, o, none⟩) (Nat.le_refl _) _, by rw [List.length_set, hlen], hst, fun j hj => ?_⟩
                by_cases e : o = j
                · subst e
                  rw [List.getD_eq_getElem?_getD, List.getElem?_set_self (by omega)]
                  simp only [Option.getD_some]; omega
                · rw [List.getD_eq_getElem?_getD, List.getElem?_set_ne e, ← List.getD_eq_getElem?_getD]
                  exact habs j hj
              have HN := Lib.hid hN
              have hoI : (o : Int) < times.length := by omega
              have hkI : (k : Int) < times.length := by omega
              generalize on.getD o 0 = old at c3
              clear hN hst habs hlen hrow h5 h6 hget R hal hXl
              go_wp2
              go_roundw
              case rel => exact ⟨k + 1, _, by go_num, by omega, HN.out⟩
              case measure => simp only [intOf]; omega
        · obtain rfl : times.length = k := by omega
          have h3 : decide (times.length < times.length) = false := by simp
          have HR := Lib.hid R
          have hon : on = giveR times m ordX (List.replicate times.length (-1)) := by
            have h := R.eq
            rw [List.drop_of_length_le (by rw [HXl.out]; exact Nat.le_refl _)] at h
            exact h
          have HOn := Lib.hid hon
          clear R hon
          cases long
          all_goals
            go_wp2
            go_ret
            exact ⟨ordX, HX1.out, by simpa using HX2.out, rfl, by rw [← HOn.out]; exact HR.out.row, HR.out.bel⟩

/-! ### Load -/
theorem has_any2 (times on : List Int) (n : Nat) (hn : n = times.length) (c : Int) (a b : Option Addr) (cap cap' : Nat) (w : World) (hx : Ints w a times) (hy : Ints w b on) (hs : times.length ≤ 1000) (hl : on.length = times.length) (hb : ∀ t ∈ times, 0 ≤ t ∧ t ≤ 1000) :
    Calls Tryd.prog 74 #[.slice a times.length cap, .slice b n cap', .int .i64 c] w fun e w' => e = .returned (.int .i64 (loadA times on times.length c)) ∧ w' = w := by
  subst hn; exact has_any times on c a b cap cap' w hx hy hs hl hb
theorem loadOf_A (times on : List Int) (c : Nat) : loadOf times on c = loadA times on times.length c := by
  unfold loadOf loadA
  exact loadL_perm times on c (revRange_perm _).symm
theorem longOf_max (times on : List Int) (m : Nat) (hm : 0 < m) (v : Int) (h1 : ∀ c : Nat, c < m → loadA times on times.length c ≤ v) (h2 : ∃ c : Nat, c < m ∧ loadA times on times.length c = v) : longOf times on m = v := by
  unfold longOf
  have hne : loads times on m ≠ [] := by unfold loads; intro c; have := congrArg List.length c; simp at this; omega
  obtain ⟨c, hc, e⟩ := h2
  have k1 : v ∈ loads times on m := by
    unfold loads
    exact List.mem_map.2 ⟨c, List.mem_range.2 hc, by rw [loadOf_A, e]⟩
  have k2 := maxL_ge _ v k1
  have k3 := maxL_le _ hne v fun x hx => by
    unfold loads at hx
    obtain ⟨c, hc, rfl⟩ := List.mem_map.1 hx
    rw [loadOf_A]; exact h1 c (List.mem_range.1 hc)
  omega
/-- what is wrong with a load -/
def loadE (times : List Int) (mach : Int) (on : List Int) : Int :=
  if chk times mach ≠ 0 then chk times mach else if on.length ≠ times.length then 3 else if (on.all fun n => decide (0 ≤ n) && decide (n ≤ mach - 1)) = true then 0 else 1
theorem loadE_ok {times : List Int} {m : Nat} {on : List Int} (hf : Fine times m) : loadE times m on = 0 ↔ OnOk times m on := by
  unfold loadE
  rw [if_neg (by rw [fine_chk hf]; simp)]
  by_cases h : on.length = times.length
  · rw [if_neg (by simpa using h)]
    constructor
    · intro h2
      split at h2
      · rename_i c
        refine ⟨h, fun i hi => ?_⟩
        have := List.all_eq_true.1 c (on.getD i 0) (getD_mem on i (by omega))
        simp at this
        simpa using ⟨this.1, by omega⟩
      · omega
    · intro O
      rw [if_pos]
      refine List.all_eq_true.2 fun n hn => ?_
      obtain ⟨i, hi, rfl⟩ := mem_getD hn
      have := O.box i (by omega)
      simp only [Bool.and_eq_true, decide_eq_true_eq]
      omega
  · rw [if_pos h]
    exact ⟨fun c => by omega, fun O => absurd O.len h⟩
theorem loadE_code {times : List Int} {m : Nat} {on : List Int} (hf : Fine times m) (h : loadE times m on ≠ 0) : loadE times m on = if on.length = times.length then 1 else 3 := by
  unfold loadE at h ⊢
  rw [if_neg (by rw [fine_chk hf]; simp)] at h ⊢
  by_cases c : on.length = times.length
  · rw [if_neg (by simpa using c)] at h ⊢
    rw [if_pos c]
    split
    · rename_i d; rw [if_pos d] at h; exact absurd rfl h
    · rfl
  · rw [if_pos c, if_neg c]

set_option maxHeartbeats 1000000 in
theorem rload_bad (times on : List Int) (mach : Int) (a b : Option Addr) (cap cap' : Nat) (w : World) (hx : Ints w a times) (hl : times.length ≤ 9223372036854775807) (hl' : on.length ≤ 9223372036854775807) (h : chk times mach ≠ 0) :
    Calls Tryd.prog 53 #[.slice a times.length cap, .int .i64 mach, .slice b on.length cap'] w fun e w' => e = .returned (.tuple #[.int .i64 (chk times mach), .int .i64 0]) ∧ w' = w := by
  have hT := rtimes_any times mach a cap w hx hl
  have h0 : (chk times mach == 0) = false := by rw [beq_eq_false_iff_ne]; exact h
  have h1 : (chk times mach != 0) = true := by rw [bne_iff_ne]; exact h
  generalize chk times mach = c at *
  have HT := Lib.hid hT
  clear hT h
  go_enter Tryd.func53, Tryd.ntmps53
  go_wp2_with fail
  refine HT.out.mono ?_
  rintro e w1 ⟨rfl, rfl⟩
  go_wp2
  go_loop [8, 9] (fun e i => e = .int .i64 c ∧ i = .int .i64 0) (fun _ _ => 0)
  case atStart => exact ⟨rfl, rfl⟩
  case round =>
    obtain ⟨rfl, rfl⟩ := hrel
    go_wp2
    all_goals
      go_ret2
      exact ⟨rfl, rfl⟩
set_option maxHeartbeats 2000000 in
theorem rload_any (times on : List Int) (m : Nat) (a b : Option Addr) (cap cap' : Nat) (w : World) (hx : Ints w a times) (hy : Ints w b on) (hf : Fine times m) (hl' : on.length ≤ 9223372036854775807) :
    Calls Tryd.prog 53 #[.slice a times.length cap, .int .i64 m, .slice b on.length cap'] w fun e w' => e = .returned (.tuple #[.int .i64 (loadE times m on), .int .i64 (if loadE times m on = 0 then longOf times on m else 0)]) ∧ w' = w := by
  have hT := rtimes_any times m a cap w hx (by have := hf.short; omega)
  rw [fine_chk hf] at hT
  have HT := Lib.hid hT
  have hs := hf.short
  have r1 := hf.r1
  have r2 := hf.r2
  have hall := hf.all
  clear hT
  by_cases hlen : on.length = times.length
  · have hne : ((on.length : Int) != (times.length : Int)) = false := by rw [bne_eq_false_iff_eq]; omega
    have Hlen := Lib.hid hlen
    have hon16 : on.length ≤ 16 := by omega
    clear hlen
    go_enter Tryd.func53, Tryd.ntmps53
    go_wp2_with fail
    refine HT.out.mono ?_
    rintro e w1 ⟨rfl, rfl⟩
    go_wp2
    go_loop [8, 9] (fun e i => ∃ k : Nat, i = .int .i64 k ∧ k ≤ on.length ∧ ((e = .int .i64 0 ∧ ∀ j, j < k → 0 ≤ on.getD j 0 ∧ on.getD j 0 ≤ (m : Int) - 1) ∨ (e = .int .i64 1 ∧ ∃ j, j < on.length ∧ ¬ (0 ≤ on.getD j 0 ∧ on.getD j 0 ≤ (m : Int) - 1)))) (fun _ i => on.length - (intOf i).toNat)
    case atStart => exact ⟨0, rfl, Nat.zero_le _, .inl ⟨rfl, fun j hj => by omega⟩⟩
    case round =>
      obtain ⟨k, rfl, hk, ⟨rfl, hg⟩ | ⟨rfl, hbad⟩⟩ := hrel
      · have Hg := Lib.hid hg
        clear hg
        rcases Nat.lt_or_ge k on.length with hlt | hge
        · obtain ⟨bb, oo, rfl, hc⟩ := hy.open (by omega)
          have hck := hc k hlt
          clear hc
          generalize hv : on.getD k 0 = v at hck
          have Hv := Lib.hid hv
          clear hv
          by_cases hr : v < 0 ∨ (m : Int) - 1 < v
          · have Hr := Lib.hid hr
            clear hr
            go_wp2_with fail
            refine (rin_no v 0 ((m : Int) - 1) Hr.out _).mono ?_
            rintro e w2 ⟨rfl, rfl⟩
            go_wp2
            go_round
            case rel => exact ⟨k + 1, by go_num, by omega, .inr ⟨rfl, k, hlt, by rw [Hv.out]; have := Hr.out; omega⟩⟩
            case measure => simp only [intOf]; omega
          · have v1 : 0 ≤ v := by omega
            have v2 : v ≤ (m : Int) - 1 := by omega
            clear hr
            go_wp2_with fail
            refine (rin_yes v 0 ((m : Int) - 1) v1 v2 _).mono ?_
            rintro e w2 ⟨rfl, rfl⟩
            go_wp2
            go_round
            case rel =>
              refine ⟨k + 1, by go_num, by omega, .inl ⟨rfl, fun j hj => ?_⟩⟩
              rcases Nat.lt_or_ge j k with h | h
              · exact Hg.out j h
              · obtain rfl : j = k := by omega
                rw [Hv.out]; exact ⟨v1, v2⟩
            case measure => simp only [intOf]; omega
        · obtain rfl : on.length = k := by omega
          have h3 : decide (on.length < on.length) = false := by simp
          have hok : loadE times m on = 0 := (loadE_ok hf).2 ⟨Hlen.out, fun i hi => by have := Hg.out i (by rw [Hlen.out]; exact hi); omega⟩
          have hhas := fun c : Int => has_any2 times on on.length Hlen.out c a b cap cap' w hx hy (by omega) Hlen.out (fun t ht => by have := hall t ht; omega)
          have habs := fun c : Nat => loadA_abs times on (fun t ht => by have := hall t ht; omega) c times.length (Nat.le_refl _)
          have HH := Lib.hid hhas
          have HA := Lib.hid habs
          have HOk := Lib.hid hok
          have Hlen2 := Lib.hid Hlen.out
          clear hhas hok habs
          go_wp2
          go_loop [10, 11] (fun mv ix => ∃ (k : Nat) (u : Int), ix = .int .i64 k ∧ k ≤ m ∧ mv = .int .i64 u ∧ 0 ≤ u ∧ (∀ c : Nat, c < k → loadA times on times.length c ≤ u) ∧ (u = 0 ∨ ∃ c : Nat, c < k ∧ loadA times on times.length c = u)) (fun _ i => m - (intOf i).toNat)
          case atStart => exact ⟨0, 0, rfl, Nat.zero_le _, rfl, by omega, fun c hc => by omega, .inl rfl⟩
          case round =>
            obtain ⟨k, u, rfl, hk, rfl, hu, hle, hmem⟩ := hrel
            have HLe := Lib.hid hle
            have HMem := Lib.hid hmem
            clear hle hmem
            rcases Nat.lt_or_ge k m with hkm | hkm
            · have hkI : (k : Int) < m := by omega
              have H1 := Lib.hid (HH.out (k : Int))
              have ha := HA.out k
              generalize hv : loadA times on times.length (k : Int) = vv at *
              have HV := Lib.hid hv
              clear hv
              rcases Int.lt_or_le u vv with huv | huv
              · go_wp2_with fail
                refine H1.out.mono ?_
                rintro e w3 ⟨rfl, rfl⟩
                go_wp2
                go_round
                case rel =>
                  refine ⟨k + 1, vv, by go_num, by omega, rfl, by omega, fun c hc => ?_, .inr ⟨k, Nat.lt_succ_self _, HV.out⟩⟩
                  rcases Nat.lt_or_ge c k with d | d
                  · have := HLe.out c d; omega
                  · obtain rfl : c = k := by omega
                    rw [HV.out]; exact Int.le_refl _
                case measure => simp only [intOf]; omega
              · go_wp2_with fail
                refine H1.out.mono ?_
                rintro e w3 ⟨rfl, rfl⟩
                go_wp2
                go_round
                case rel =>
                  refine ⟨k + 1, u, by go_num, by omega, rfl, hu, fun c hc => ?_, ?_⟩
                  · rcases Nat.lt_or_ge c k with d | d
                    · exact HLe.out c d
                    · obtain rfl : c = k := by omega
                      rw [HV.out]; exact huv
                  · rcases HMem.out with d | ⟨c, d1, d2⟩
                    · exact .inl d
                    · exact .inr ⟨c, by omega, d2⟩
                case measure => simp only [intOf]; omega
            · obtain rfl : m = k := by omega
              have h4 : decide (m < m) = false := by simp
              go_wp2
              go_ret2
              have hlong : longOf times on m = u := by
                refine longOf_max times on m (by omega) u HLe.out ?_
                rcases HMem.out with d | ⟨c, d1, d2⟩
                · refine ⟨0, by omega, ?_⟩
                  have h1 := HLe.out 0 (by omega)
                  have h2 := (HA.out 0).1
                  omega
                · exact ⟨c, d1, d2⟩
              refine ⟨?_, rfl⟩
              first | (rw [HOk.out, if_pos rfl, hlong]; rfl) | (rw [hlong]; rfl)
      · obtain ⟨j, hj, hnj⟩ := hbad
        have hno : loadE times m on = 1 := by
          have h1 : loadE times m on ≠ 0 := fun c => by have := ((loadE_ok hf).1 c).box j (by have := Hlen.out; omega); omega
          rw [loadE_code hf h1, if_pos Hlen.out]
        have HNo := Lib.hid hno
        clear hno hnj hj
        go_wp2
        all_goals
          go_ret2
          refine ⟨?_, rfl⟩
          first | (exfalso; have := HNo.out; omega) | (rw [HNo.out]; rfl)
  · have hne : ((on.length : Int) != (times.length : Int)) = true := by rw [bne_iff_ne]; omega
    have hno : loadE times m on = 3 := by
      have h1 : loadE times m on ≠ 0 := fun c => hlen ((loadE_ok hf).1 c).len
      rw [loadE_code hf h1, if_neg hlen]
    have HNo := Lib.hid hno
    clear hno hlen
    go_enter Tryd.func53, Tryd.ntmps53
    go_wp2_with fail
    refine HT.out.mono ?_
    rintro e w1 ⟨rfl, rfl⟩
    go_wp2
    go_loop [8, 9] (fun e i => e = .int .i64 3 ∧ i = .int .i64 0) (fun _ _ => 0)
    case atStart => exact ⟨rfl, rfl⟩
    case round =>
      obtain ⟨rfl, rfl⟩ := hrel
      go_wp2
      all_goals
        go_ret2
        refine ⟨?_, rfl⟩
        first | (exfalso; have := HNo.out; omega) | (rw [HNo.out]; rfl)
end Go.Proofs.YtomgcfjdmoefgaaDoor
