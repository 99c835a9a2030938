/- WALK: sim.Drop. -/
import Derived.Test.YtominbodniikpaaDoorSimUntilP
namespace Go.Proofs.YtominbodniikpaaDoor
open Go Go.RowKit SimPlain HeapPlain

def sameId (id : Int) (e : Ev) : Bool := decide (e.id = id)
def offId (id : Int) (e : Ev) : Bool := !sameId id e
theorem filter_two (id : Int) (q : List Ev) : (q.filter (sameId id)).length + (q.filter (offId id)).length = q.length := by
  induction q with
  | nil => rfl
  | cons x q ih =>
    unfold offId at *
    by_cases h : sameId id x = true
    · rw [List.filter_cons_of_pos h, List.filter_cons_of_neg (by simp [h])]; simp; omega
    · have h' : sameId id x = false := by simpa using h
      rw [List.filter_cons_of_neg h, List.filter_cons_of_pos (by simp [h'])]; simp; omega
theorem filter_snoc (p : Ev → Bool) (l : List Ev) (x : Ev) : (l ++ [x]).filter p = l.filter p ++ if p x = true then [x] else [] := by
  rw [List.filter_append]
  by_cases h : p x = true
  · rw [if_pos h, List.filter_cons_of_pos h]; rfl
  · rw [if_neg h, List.filter_cons_of_neg h]; rfl

/-- what the first loop keeps -/
structure DropW (w : World) (B H : Nat) (a : Option Addr) (cap : Nat) (l0 q : List Ev) (id : Int) (pre rest l' : List Ev) (ak : Option Addr) (capk : Nat) (n : Int) (wr : World) : Prop where
  split : q = pre ++ rest
  perm : l'.Perm rest
  ord : Heap e0 Lt l'
  heap : HeapE wr B H a cap l'
  own : EvOwn wr w.heap.size ak capk (pre.filter (offId id))
  cnt : n = (pre.filter (sameId id)).length
  only : Only w wr (Touch H a cap l0.length)
theorem EvOwn.only {w w' : World} {B : Nat} {a : Option Addr} {cap : Nat} {l : List Ev} {own : Nat → Prop} (h : EvOwn w B a cap l) (o : Only w w' own) (hB : ∀ k, own k → k < B) : EvOwn w' B a cap l :=
  h.same fun k hk => o.block k (h.lt k hk).2 fun c => by have := hB k c; have := (h.lt k hk).1; omega
theorem ev_cells_new (w : World) (x y z : Int) (t : TypeId) (g : Nat) (hg : g = w.heap.size) : ∀ j u, [Value.int .i64 x, .int .i64 y, .int .i64 z][j]? = some u → (w.alloc (.cells #[.int .i64 x, .int .i64 y, .int .i64 z] t)).cell? ((⟨g, 0, none⟩ : Addr).add j) = some u := by
  subst hg
  intro j u hj
  have hb := heap_alloc_new w (.cells #[.int .i64 x, .int .i64 y, .int .i64 z] t)
  have hj' : (#[Value.int .i64 x, .int .i64 y, .int .i64 z] : Array Value)[j]? = some u := by rw [← Array.getElem?_toList]; exact hj
  have e : ((⟨w.heap.size, 0, none⟩ : Addr).add j) = ⟨w.heap.size, j, none⟩ := by unfold Addr.add; split <;> simp_all
  rw [e]
  simp only [World.cell?, hb]; exact hj'
/-- one popped -/
theorem DropW.pop {w : World} {B H : Nat} {a : Option Addr} {cap : Nat} {l0 q : List Ev} {id : Int} {pre rest l' l2 : List Ev} {x : Ev} {ak : Option Addr} {capk : Nat} {n : Int} {wr w2 : World}
    (h : DropW w B H a cap l0 q id pre (x :: rest) l' ak capk n wr) (hT : ∀ k, Touch H a cap l0.length k → k < w.heap.size) (hp : (x :: l2).Perm l') (ho : Heap e0 Lt l2) (hE : HeapE w2 B H a cap l2) (o : Only wr w2 (Touch H a cap l'.length)) :
    EvOwn w2 w.heap.size ak capk (pre.filter (offId id)) ∧ Only w w2 (Touch H a cap l0.length) ∧ l2.Perm rest := by
  have o' : Only wr w2 (Touch H a cap l0.length) := o.mono fun k _ c => c.len
  exact ⟨h.own.only o' hT, h.only.trans o' (fun _ _ c => c), rest_of h.perm hp⟩
theorem DropW.drop {w : World} {B H : Nat} {a : Option Addr} {cap : Nat} {l0 q : List Ev} {id : Int} {pre rest l' l2 : List Ev} {x : Ev} {ak : Option Addr} {capk : Nat} {n : Int} {wr w2 w3 : World}
    (h : DropW w B H a cap l0 q id pre (x :: rest) l' ak capk n wr) (hT : ∀ k, Touch H a cap l0.length k → k < w.heap.size) (hp : (x :: l2).Perm l') (ho : Heap e0 Lt l2) (hE : HeapE w2 B H a cap l2) (o : Only wr w2 (Touch H a cap l'.length)) (o3 : Only w2 w3 (fun _ => False)) (hx : x.id = id) :
    DropW w B H a cap l0 q id (pre ++ [x]) rest l2 ak capk (n + 1) w3 := by
  obtain ⟨h1, h2, h3⟩ := h.pop hT hp ho hE o
  have e1 : sameId id x = true := by simpa [sameId] using hx
  refine ⟨by rw [h.split]; simp, h3, ho, hE.only (o3.mono fun _ _ c => c.elim), ?_, ?_, h2.trans o3 (fun _ _ c => c.elim)⟩
  · rw [filter_snoc, if_neg (by simp [offId, e1]), List.append_nil]
    exact h1.only o3 (fun _ c => c.elim)
  · rw [filter_snoc, if_pos e1, h.cnt]; simp
theorem DropW.keep {w : World} {B H : Nat} {a : Option Addr} {cap : Nat} {l0 q : List Ev} {id : Int} {pre rest l' l2 : List Ev} {x : Ev} {ak : Option Addr} {capk : Nat} {n : Int} {wr w2 w3 w4 : World} {v : Value}
    (h : DropW w B H a cap l0 q id pre (x :: rest) l' ak capk n wr) (hT : ∀ k, Touch H a cap l0.length k → k < w.heap.size) (hp : (x :: l2).Perm l') (ho : Heap e0 Lt l2) (hE : HeapE w2 B H a cap l2) (o : Only wr w2 (Touch H a cap l'.length)) (o3 : Only w2 w3 (fun _ => False)) (hx : x.id ≠ id)
    (own4 : w4.ownsRow w.heap.size 46 3 v ((pre.filter (offId id)).length + 1) (flat3 (pre.filter (offId id)) ++ evVals x)) (gr : w3.grownBy w4 (Value.slice ak (pre.filter (offId id)).length capk).ownBlock) :
    ∃ a3 c3, v = .slice a3 ((pre ++ [x]).filter (offId id)).length c3 ∧ DropW w B H a cap l0 q id (pre ++ [x]) rest l2 a3 c3 n w4 := by
  obtain ⟨h1, h2, h3⟩ := h.pop hT hp ho hE o
  have e1 : sameId id x = false := by simpa [sameId] using hx
  have e2 : offId id x = true := by simp [offId, e1]
  have hlt := h1.lt
  have og : Only w3 w4 (fun k => w.heap.size ≤ k) := ⟨gr.os, gr.tape, gr.output, gr.size, fun k hk hn => gr.block k hk (fun e => hn (hlt k e.symm).1)⟩
  obtain ⟨a3, c3, rfl, O⟩ := EvOwn.of (l := (pre ++ [x]).filter (offId id)) (n := (pre.filter (offId id)).length + 1) (B := w.heap.size) (v := v) (w := w4) (by
    rw [filter_snoc, if_pos e2, flat3_append]
    simpa [flat3] using own4)
  refine ⟨a3, c3, rfl, by rw [h.split]; simp, h3, ho, ?_, O, ?_, (h2.trans o3 (fun _ _ c => c.elim)).trans og (fun k hk c => by omega)⟩
  · refine (hE.only (o3.mono fun _ _ c => c.elim)).only (og.mono fun k _ c c' => ?_)
    have := hT k c'.len; omega
  · rw [filter_snoc, if_neg (by simp [e1]), List.append_nil]; exact h.cnt
/-- what the second loop keeps -/
structure BackW (W1 : World) (B H : Nat) (a : Option Addr) (cap n0 : Nat) (keep : List Ev) (k : Nat) (a2 : Option Addr) (cap2 : Nat) (l2 : List Ev) (wr : World) : Prop where
  perm : l2.Perm (keep.take k)
  ord : Heap e0 Lt l2
  heap : HeapE wr B H a2 cap2 l2
  blk : ∀ b, (Value.slice a2 l2.length cap2).ownBlock = some b → (Value.slice a n0 cap).ownBlock = some b ∨ W1.heap.size ≤ b
  only : Only W1 wr (Touch H a cap n0)
theorem BackW.push {W1 : World} {B H : Nat} {a : Option Addr} {cap n0 : Nat} {keep : List Ev} {k : Nat} {a2 a3 : Option Addr} {cap2 cap3 : Nat} {l2 l3 : List Ev} {wr w2 w3 : World} (h : BackW W1 B H a cap n0 keep k a2 cap2 l2 wr) (hk : k < keep.length) (o2 : Only wr w2 (fun _ => False))
    (hp : l3.Perm (keep.getD k e0 :: l2)) (ho : Heap e0 Lt l3) (hE : HeapE w3 B H a3 cap3 l3) (o3 : Only w2 w3 (Touch H a2 cap2 l2.length)) (hn : ∀ b, (Value.slice a3 l3.length cap3).ownBlock = some b → (Value.slice a2 l2.length cap2).ownBlock = some b ∨ w2.heap.size ≤ b) :
    BackW W1 B H a cap n0 keep (k + 1) a3 cap3 l3 w3 := by
  have hs := h.only.size
  have hs2 := o2.size
  have e : keep.take (k + 1) = keep.take k ++ [keep.getD k e0] := by
    rw [List.take_add_one, List.getD_eq_getElem?_getD, List.getElem?_eq_getElem hk]; rfl
  refine ⟨?_, ho, hE, fun b hb => ?_, (h.only.trans o2 (fun _ _ c => c.elim)).trans o3 (fun b hb c => ?_)⟩
  · rw [e]
    exact hp.trans ((h.perm.cons _).trans (List.perm_append_singleton _ _).symm)
  · rcases hn b hb with c | c
    · exact h.blk b c
    · exact .inr (by omega)
  · rcases c with c | c
    · exact .inl c
    · rcases h.blk b c with c | c
      · exact .inr c
      · omega

def DropRes (w : World) (B S : Nat) (F : Nat → Prop) (q : List Ev) (now seq id : Int) (e : Ending) (w' : World) : Prop :=
  e = .returned (.int .i64 (q.filter (sameId id)).length) ∧ SimQ w' B S (Grow F w w') (q.filter (offId id)) now seq ∧ Only w w' F
theorem drop_post {w W1 wr : World} {B S : Nat} {F : Nat → Prop} {H : Nat} {a ak a2 : Option Addr} {cap capk cap2 : Nat} {l l' q l2 keep : List Ev} {now seq id z : Int} (h : SimG w B S F H a cap l q now seq) (hB : B ≤ w.heap.size)
    (R : DropW w B H a cap l q id q [] l' ak capk z W1) (R2 : BackW W1 B H a cap l.length keep keep.length a2 cap2 l2 wr)
    (hS : wr.heap[S]? = some (.cells #[.pointer (some ⟨H, 0, none⟩), .int .i64 now, .int .i64 seq, .int .i64 q.length] 49 (0, 0))) (hz : (q.length : Int) - z = keep.length) (hk : q.filter (offId id) = keep) :
    SimQ (wr.setCell ⟨S, 3, none⟩ (.int .i64 (q.length - z))) B S (Grow F w (wr.setCell ⟨S, 3, none⟩ (.int .i64 (q.length - z)))) (q.filter (offId id)) now seq ∧ Only w (wr.setCell ⟨S, 3, none⟩ (.int .i64 (q.length - z))) F := by
  have o : Only wr (wr.setCell ⟨S, 3, none⟩ (.int .i64 (q.length - z))) (fun k => k = S) := Only.setCell wr ⟨S, 3, none⟩ _ (fun k => k = S) rfl
  have s1 := R.only.size
  have s2 := R2.only.size
  have s3 := o.size
  have s4 := h.lt
  have hp := R2.perm
  rw [List.take_length] at hp
  have hne : ∀ k, (Value.slice a2 l2.length cap2).ownBlock = some k → k ≠ S := fun k hk => by
    rcases R2.blk k hk with c | c
    · exact h.sa k c
    · omega
  have hTS : ¬ Touch H a cap l.length S := fun hk => by
    rcases hk with hk | hk
    · exact h.sH hk
    · exact h.sa _ hk rfl
  refine ⟨⟨H, a2, cap2, l2, R2.heap.only (o.mono fun k hk0 c hk => ?_), R2.ord, by rw [hk]; exact hp, ?_, h.sH, hne, fun k c => ?_, .inl h.fs, fun k c => ?_, h.fine.filter _, h.sorted.sublist List.filter_sublist⟩, ?_⟩
  · subst c
    rcases hk with hk | hk
    · exact h.sH hk
    · exact hne _ hk rfl
  · rw [hk, ← hz]
    exact heap_setCell_same _ _ _ _ _ _ hS
  · rcases c with c | c
    · exact .inl (h.foot k (.inl c))
    · rcases R2.blk k c with d | d
      · exact .inl (h.foot k (.inr d))
      · exact .inr ⟨by omega, Nat.lt_of_lt_of_le (R2.heap.row.lt k c).2 s3⟩
  · rcases c with c | c
    · have := h.fb k c; omega
    · omega
  · exact ((R.only.mono (own' := F) fun k _ c => h.foot k c).trans R2.only (fun k _ c => h.foot k c)).trans o (fun k _ c => by rw [c]; exact h.fs)
set_option maxRecDepth 100000 in
set_option maxHeartbeats 4000000 in
theorem Drop_any (S B : Nat) (F : Nat → Prop) (q : List Ev) (now seq id : Int) (w : World) (hB : B ≤ w.heap.size) (h : SimQ w B S F q now seq) :
    Calls Tryd.prog 11 #[.pointer (some ⟨S, 0, none⟩), .int .i64 id] w fun e w' => DropRes w B S F q now seq id e w' := by
  obtain ⟨H, a, cap, l, hG⟩ := h
  obtain ⟨i0, hi, hz0, hz1, hz2⟩ := info_parts evInfo
  have hm := hG.fine.many
  have hT : ∀ k, Touch H a cap l.length k → k < w.heap.size := fun k hk => (hG.fb k (hG.foot k hk)).2
  have hST : ¬ Touch H a cap l.length S := fun hk => by
    rcases hk with hk | hk
    · exact hG.sH hk
    · exact hG.sa _ hk rfl
  have h0 : DropW w B H a cap l q id [] q l none 0 0 w := ⟨rfl, hG.perm, hG.ord, hG.heap, EvOwn.nil _ _, rfl, Only.refl _ _⟩
  have H0 := Lib.hid h0
  have HT := Lib.hid hT
  have HST := Lib.hid hST
  have HG := Lib.hid hG
  have hSl := hG.lt
  clear h0 hT hST hG
  go_enter Tryd.func11, Tryd.ntmps11
  go_wp2
  go_loopw [5, 6] (fun keep n wr => ∃ (pre rest l' : List Ev) (ak : Option Addr) (capk : Nat) (z : Int), keep = .slice ak (pre.filter (offId id)).length capk ∧ n = .int .i64 z ∧ DropW w B H a cap l q id pre rest l' ak capk z wr)
    (fun keep n _ => q.length - slLen keep - (intOf n).toNat)
  case atStart => exact ⟨[], q, l, none, 0, 0, rfl, rfl, H0.out⟩
  case round =>
    obtain ⟨pre, rest, l', ak, capk, z, rfl, rfl, R⟩ := hrel
    have hpl : pre.length + rest.length = q.length := by rw [R.split]; simp
    have hft := filter_two id pre
    have hll := R.perm.length_eq
    have hS := (R.only.block S hSl HST.out).trans HG.out.s
    have c0 : wr.cell? ⟨S, 0, none⟩ = some (.pointer (some ⟨H, 0, none⟩)) := by simp only [World.cell?, hS]; rfl
    have Hz := Lib.hid R.cnt
    have HR := Lib.hid R
    have HS := Lib.hid hS
    clear R hS
    cases rest with
    | nil =>
      have hl0 : l'.length = 0 := by simpa using hll
      have hLen := Len_any l' a cap H B wr HR.out.heap (by omega)
      rw [hl0] at hLen
      have HLen := Lib.hid hLen
      have Hl0 := Lib.hid hl0
      clear hLen hl0 hll
      go_wp2_with fail
      refine HLen.out.mono ?_
      rintro e w2 ⟨rfl, rfl⟩
      have hpre : pre = q := by have := HR.out.split; simpa using this.symm
      subst hpre
      obtain ⟨W1, hW1⟩ : ∃ W1 : World, W1 = wr := ⟨_, rfl⟩
      subst hW1
      have hB0 : BackW W1 B H a cap l.length (pre.filter (offId id)) 0 a cap l' W1 :=
        ⟨by rw [List.eq_nil_of_length_eq_zero Hl0.out]; simp, HR.out.ord, HR.out.heap, fun b hb => .inl ((own_len a cap _ _).trans hb), Only.refl _ _⟩
      have HB0 := Lib.hid hB0
      have hkl : (pre.filter (offId id)).length ≤ 60 := by have := HG.out.perm.length_eq; omega
      have hown := HR.out.own
      have Hft := Lib.hid hft
      have zz0 : 0 ≤ z := by have := Hz.out; omega
      have hzq : z ≤ pre.length := by have := Hz.out; omega
      have hqz : (pre.length : Int) - z = (pre.filter (offId id)).length := by have := Hz.out; omega
      have Hqz := Lib.hid hqz
      clear hB0 hft hqz
      generalize hKK : pre.filter (offId id) = keep at *
      have HK := Lib.hid hKK
      have HOwn := Lib.hid hown
      clear hKK hown
      go_wp2
      go_loopw [34] (fun i wx => ∃ (k : Nat) (a2 : Option Addr) (cap2 : Nat) (l2 : List Ev), i = .int .i64 k ∧ k ≤ keep.length ∧ BackW W1 B H a cap l.length keep k a2 cap2 l2 wx) (fun i _ => keep.length - (intOf i).toNat)
      case atStart => exact ⟨0, a, cap, l', rfl, Nat.zero_le _, HB0.out⟩
      case round =>
        obtain ⟨k, a2, cap2, l2, rfl, hk, R2⟩ := hrel
        have hl2 := R2.perm.length_eq
        rw [List.length_take] at hl2
        have hS2 := (R2.only.block S (lt_of_block HS.out) HST.out).trans HS.out
        have d0 : wr.cell? ⟨S, 0, none⟩ = some (.pointer (some ⟨H, 0, none⟩)) := by simp only [World.cell?, hS2]; rfl
        have HR2 := Lib.hid R2
        have hl2x : l2.length ≤ 60 := by omega
        rcases Nat.lt_or_ge k keep.length with hlt | hge
        · have hkeep : EvOwn wr w.heap.size ak capk keep := HOwn.out.only R2.only HT.out
          obtain ⟨g, rfl, hg1, hg2, _, hcell, _⟩ := hkeep.open (by omega)
          obtain ⟨v0, v1, v2⟩ := hcell k hlt
          have hkI : (k : Int) < (keep.length : Int) := by omega
          have hx : ∃ x, keep.getD k e0 = x := ⟨_, rfl⟩
          obtain ⟨⟨xt, xi, xs⟩, hx⟩ := hx
          rw [hx] at v0 v1 v2
          have Hx := Lib.hid hx
          have HS2 := Lib.hid hS2
          clear hcell hkeep R2 hS2 hx hl2
          simp only at v0 v1 v2
          go_upto_region 11 with fail
          have o3 := Only.alloc wr (.cells #[.int .i64 xt, .int .i64 xi, .int .i64 xs] 46) (fun _ => False)
          have hb3 := heap_alloc_new wr (.cells #[.int .i64 xt, .int .i64 xi, .int .i64 xs] 46)
          generalize wr.alloc (.cells #[.int .i64 xt, .int .i64 xi, .int .i64 xs] 46) = w3 at o3 hb3 ⊢
          have d0 := (World.cell?_of_block (a := ⟨S, 0, none⟩) (o3.block S (lt_of_block HS2.out) (fun c => c))).trans d0
          have hB3 : B ≤ w3.heap.size := by have := HR.out.only.size; have := HR2.out.only.size; have := o3.size; omega
          generalize wr.heap.size = bx at *
          have y0 : w3.cell? ⟨bx, 0, none⟩ = some (.int .i64 xt) := by simp only [World.cell?, hb3]; rfl
          have y1 : w3.cell? ⟨bx, 1, none⟩ = some (.int .i64 xi) := by simp only [World.cell?, hb3]; rfl
          have y2 : w3.cell? ⟨bx, 2, none⟩ = some (.int .i64 xs) := by simp only [World.cell?, hb3]; rfl
          have O3 := Lib.hid (o3.drewN 1)
          clear hb3 v0 v1 v2
          have hP := Push_any l2 ⟨xt, xi, xs⟩ a2 cap2 H B w3.drew (HR2.out.heap.only (O3.out.mono fun _ _ c => c.elim)) (by omega) hB3 HR2.out.ord
          unfold evV at hP
          simp only at hP
          have HP := Lib.hid hP
          clear hP o3
          go_still_tail 5, (by kernel_rfl)
          change wpList _ _ _ _ _ w3.drew
          go_wp2_with fail
          refine HP.out.mono ?_
          rintro e w5 ⟨rfl, a3, cap3, l3, hp3, ho3, hE3, o5, hn3⟩
          have HB := Lib.hid (HR2.out.push hlt O3.out (by rw [Hx.out]; exact hp3) ho3 hE3 o5 hn3)
          clear hp3 ho3 hE3 o5 hn3
          go_wp2
          go_roundw
          case rel => exact ⟨k + 1, a3, cap3, l3, by go_num, by omega, HB.out⟩
          case measure => simp only [intOf]; omega
        · obtain rfl : keep.length = k := by omega
          have h3 : decide (keep.length < keep.length) = false := by simp
          have d3 : wr.cell? ⟨S, 3, none⟩ = some (.int .i64 pre.length) := by simp only [World.cell?, hS2]; rfl
          have g3 : wr.frozen? ⟨S, 3, none⟩ = false := by simp only [World.frozen?, hS2]; rfl
          have HS2 := Lib.hid hS2
          clear R2 hS2 d0 hl2
          go_wp2
          go_ret
          refine ⟨by rw [Hz.out]; rfl, ?_⟩
          have hpost := drop_post HG.out hB HR.out HR2.out HS2.out Hqz.out HK.out
          exact hpost
    | cons x rest =>
      have hlen : 0 < l'.length := by rw [hll]; simp
      have hx := first_of HR.out.ord HR.out.perm (by have := HG.out.sorted; rw [HR.out.split] at this; exact (List.pairwise_append.1 this).2.1)
      simp only [List.length_cons] at hll hpl
      have hLen := Len_any l' a cap H B wr HR.out.heap (by omega)
      have hlI : (0 : Int) < (l'.length : Int) := by omega
      have HLen := Lib.hid hLen
      have Hx := Lib.hid hx
      have hl100 : l'.length ≤ 100 := by omega
      clear hLen hx hll
      go_wp2_with fail
      refine HLen.out.mono ?_
      rintro e w2 ⟨rfl, rfl⟩
      go_wp2_with fail
      refine (Pop_any l' a cap H B wr HR.out.heap HR.out.ord hl100 hlen).mono ?_
      rintro e w2 ⟨rfl, l2, hp, ho, hE2, oP⟩
      rw [Hx.out] at hp ⊢
      obtain ⟨xt, xi, xs⟩ := x
      have HP := Lib.hid hp
      have HO := Lib.hid ho
      have HE2 := Lib.hid hE2
      have OP := Lib.hid oP
      clear hp ho hE2 oP
      unfold evV
      simp only
      go_upto_region 5 with fail
      have o3 := Only.alloc w2 (.cells #[.int .i64 xt, .int .i64 xi, .int .i64 xs] 46) (fun _ => False)
      have hb3 := heap_alloc_new w2 (.cells #[.int .i64 xt, .int .i64 xi, .int .i64 xs] 46)
      generalize w2.alloc (.cells #[.int .i64 xt, .int .i64 xi, .int .i64 xs] 46) = w3 at o3 hb3 ⊢
      generalize w2.heap.size = bx at *
      have y0 : w3.cell? ⟨bx, 0, none⟩ = some (.int .i64 xt) := by simp only [World.cell?, hb3]; rfl
      have y1 : w3.cell? ⟨bx, 1, none⟩ = some (.int .i64 xi) := by simp only [World.cell?, hb3]; rfl
      have y2 : w3.cell? ⟨bx, 2, none⟩ = some (.int .i64 xs) := by simp only [World.cell?, hb3]; rfl
      have O3 := Lib.hid o3
      have Hft := Lib.hid hft
      have zz0 : 0 ≤ z := by have := Hz.out; omega
      have zz60 : z ≤ 60 := by have := HG.out.perm.length_eq; have := Hz.out; omega
      have hfl : (pre.filter (offId id)).length ≤ 60 := by have := HG.out.perm.length_eq; omega
      clear o3 hb3 hft
      by_cases hid : xi = id
      · have hie : (xi == id) = true := by rw [hid]; exact beq_self_eq_true _
        have HD := Lib.hid (HR.out.drop HT.out HP.out HO.out HE2.out OP.out O3.out hid)
        have HI := Lib.hid hid
        clear hid
        go_wp2
        go_roundw
        case rel => exact ⟨pre ++ [⟨xt, xi, xs⟩], rest, l2, ak, capk, z + 1, by rw [filter_snoc, if_neg (by simp [offId, sameId, HI.out]), List.append_nil], by first | rfl | go_num, HD.out⟩
        case measure => simp only [slLen, intOf]; have := Hft.out; have := Hz.out; omega
      · have hie : (xi == id) = false := by rw [beq_eq_false_iff_ne]; exact hid
        have HK := Lib.hid (fun v w4 o4 g4 => HR.out.keep (v := v) (w4 := w4) HT.out HP.out HO.out HE2.out OP.out (O3.out.trans (Only.alloc w3 (.cells #[.int .i64 xt, .int .i64 xi, .int .i64 xs] 46) _) (fun _ _ c => c)) hid o4 g4)
        have hown := HR.out.own.only (OP.out.mono (own' := Touch H a cap l.length) (fun _ _ c => c.len)) HT.out
        have hown3 := hown.only O3.out (fun _ c => c.elim)
        have HOwn := Lib.hid hown3
        have hsz : w.heap.size ≤ w3.heap.size := by have := HR.out.only.size; have := OP.out.size; have := O3.out.size; omega
        have HN := Lib.hid hid
        clear hid hown hown3
        go_wp2_with (at_builtin; refine wpList_append_own _ rfl _ _ 54 rfl w.heap.size 46 i0 (.agg #[.int .i64 0, .int .i64 0, .int .i64 0]) 3 24 Tryd.underlying54 hi hz0 hz1 hz2 rfl (by decide) (.slice ak (pre.filter (offId id)).length capk) (pre.filter (offId id)).length (flat3 (pre.filter (offId id))) rfl (World.ownsRow.alloc HOwn.out _) ⟨_, 0, none⟩ 1 1 [.int .i64 xt, .int .i64 xi, .int .i64 xs] rfl rfl (ev_cells_new _ _ _ _ _ _ (by simp)) (by simp [Value.oneCell']) (by unfold maxLen; omega) (by omega) (by simp; omega) ?_; intro v2 w6 own6 gr6 _; obtain ⟨a3, c3, hsl, hR3⟩ := HK.out v2 w6 own6 gr6; subst hsl; have HR3 := Lib.hid hR3; clear hR3 own6 gr6)
        go_roundw
        case rel => exact ⟨pre ++ [⟨xt, xi, xs⟩], rest, l2, a3, c3, z, by simp, rfl, HR3.out⟩
        case measure =>
          simp only [slLen, intOf]
          have e : ([(⟨xt, xi, xs⟩ : Ev)].filter (offId id)).length = 1 := by simp [offId, sameId, HN.out]
          have := Hft.out
          have := Hz.out
          omega
end Go.Proofs.YtominbodniikpaaDoor
