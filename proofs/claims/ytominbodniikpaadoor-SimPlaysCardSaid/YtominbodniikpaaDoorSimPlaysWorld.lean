/- WALK: what the law holds: the sim, and a row of its own. -/
import Derived.Test.YtominbodniikpaaDoorSimPlaysWalks
import Derived.Test.YtominbodniikpaaDoorSimDropP
import Derived.Test.YtominbodniikpaaDoorErr
namespace Go.Proofs.YtominbodniikpaaDoor
open Go Go.RowKit SimPlain HeapPlain

theorem EtOwn.mono {w : World} {B B' : Nat} {a : Option Addr} {cap : Nat} {l : List Ev} (h : EtOwn w B a cap l) (hB : B' ≤ B) : EtOwn w B' a cap l := by
  refine ⟨h.1, ?_⟩
  rcases h.2 with h | ⟨g, c, cur, h1, h2, h3⟩
  · exact .inl h
  · exact .inr ⟨g, c, cur, h1, by omega, h3⟩
theorem Only.of_below {a b : World} (own : Nat → Prop) (h : Below a.heap.size a b) : Only a b own := ⟨h.os, h.tape, h.output, h.size, fun k hk _ => h.block k hk⟩
/-- a sim and a row of the call's own, apart -/
structure PlW (w0 w : World) (S : Nat) (F : Nat → Prop) (a : Option Addr) (cap : Nat) (l q : List Ev) (now seq : Int) : Prop where
  sim : SimQ w w0.heap.size S F q now seq
  row : EtOwn w w0.heap.size a cap l
  off : ∀ k, (Value.slice a l.length cap).ownBlock = some k → ¬ F k
  below : Below w0.heap.size w0 w
section
variable {w0 w w' : World} {S : Nat} {F : Nat → Prop} {a : Option Addr} {cap : Nat} {l q : List Ev} {now seq : Int}
theorem PlW.aside (h : PlW w0 w S F a cap l q now seq) {own : Nat → Prop} (o : Only w w' own) (h1 : ∀ k, own k → ¬ F k) (h2 : ∀ k, own k → (Value.slice a l.length cap).ownBlock ≠ some k) (h3 : ∀ k, own k → w0.heap.size ≤ k) : PlW w0 w' S F a cap l q now seq :=
  ⟨h.sim.only o (fun k hk c => h1 k c hk), h.row.same (fun k hk => o.block k (h.row.lt k hk).2 (fun c => h2 k c hk)), h.off, h.below.trans (o.below h.below.size h3)⟩
theorem PlW.still (h : PlW w0 w S F a cap l q now seq) (o : Only w w' (fun _ => False)) : PlW w0 w' S F a cap l q now seq :=
  h.aside o (fun _ c => c.elim) (fun _ c => c.elim) (fun _ c => c.elim)
theorem PlW.drewN (h : PlW w0 w S F a cap l q now seq) (n : Nat) : PlW w0 (w.drewN n) S F a cap l q now seq := h.still ((Only.refl w _).drewN n)
theorem PlW.to (h : PlW w0 w S F a cap l q now seq) (b : Below w.heap.size w w') : PlW w0 w' S F a cap l q now seq := h.still (Only.of_below _ b)
theorem PlW.sim' (h : PlW w0 w S F a cap l q now seq) {F' : Nat → Prop} {q' : List Ev} {now' seq' : Int} (s : SimQ w' w0.heap.size S F' q' now' seq') (hF : ∀ k, F' k → F k ∨ w.heap.size ≤ k) (o : Only w w' F) : PlW w0 w' S F' a cap l q' now' seq' :=
  ⟨s, h.row.same (fun k hk => o.block k (h.row.lt k hk).2 (h.off k hk)), fun k hk c => by
    rcases hF k c with d | d
    · exact h.off k hk d
    · have := (h.row.lt k hk).2; omega, h.below.trans (o.below h.below.size (fun k hk => (h.sim.fb k hk).1))⟩
theorem PlW.row' (h : PlW w0 w S F a cap l q now seq) {a' : Option Addr} {cap' : Nat} {l' : List Ev} (r : EtOwn w' w.heap.size a' cap' l') (b : Below w.heap.size w w') : PlW w0 w' S F a' cap' l' q now seq :=
  ⟨h.sim.only (Only.of_below (fun _ => False) b) (fun _ _ c => c), r.mono h.below.size, fun k hk c => by
    have := (r.lt k hk).1
    have := (h.sim.fb k c).2
    omega, h.below.trans (b.mono h.below.size)⟩
theorem PlW.blocks (h : PlW w0 w S F a cap l q now seq) : (∀ k, F k → k < w.heap.size) ∧ (∀ k, (Value.slice a l.length cap).ownBlock = some k → k < w.heap.size) :=
  ⟨fun k hk => (h.sim.fb k hk).2, fun k hk => (h.row.lt k hk).2⟩
/-! ### the contracts, so -/
theorem FirstP (h : PlW w0 w S F a cap l q now seq) {k : Nat} (hk : IsFirst l k) (hl : l.length ≤ 1000) :
    Calls Tryd.prog 5 #[.slice a l.length cap] w fun e w' => e = .returned (.int .i64 k) ∧ PlW w0 w' S F a cap l q now seq ∧ Only w w' (fun _ => False) := by
  refine (first_at l k hk a cap _ w h.row hl).mono ?_
  rintro e w' ⟨rfl, n, rfl⟩
  exact ⟨rfl, h.drewN n, (Only.refl w _).drewN n⟩
theorem WithoutP (h : PlW w0 w S F a cap l q now seq) {k : Nat} (hk : k < l.length) (hl : l.length ≤ 1000) :
    Calls Tryd.prog 6 #[.slice a l.length cap, .int .i64 k] w fun e w' => ∃ a' c', e = .returned (.slice a' (l.eraseIdx k).length c') ∧ PlW w0 w' S F a' c' (l.eraseIdx k) q now seq ∧ (∀ j, (Value.slice a' (l.eraseIdx k).length c').ownBlock = some j → w.heap.size ≤ j) ∧ Only w w' (fun _ => False) := by
  refine (without_any l k a cap _ w h.row hk hl).mono ?_
  rintro e w' ⟨a', c', rfl, r, b⟩
  refine ⟨a', c', rfl, h.row' r b, fun j hj => ?_, Only.of_below _ b⟩
  exact (r.lt j hj).1
theorem NextP_none (h : PlW w0 w S F a cap l [] now seq) :
    Calls Tryd.prog 7 #[.pointer (some ⟨S, 0, none⟩)] w fun e w' => e = .returned (.tuple #[.agg #[.int .i64 0, .int .i64 0], .iface 50 (.int .i64 5)]) ∧ PlW w0 w' S F a cap l [] now seq ∧ Only w w' (fun _ => False) := by
  refine (Next_none S _ F now seq w h.sim).mono ?_
  rintro e w' ⟨rfl, o⟩
  exact ⟨rfl, h.still o, o⟩
theorem NextP_some {x : Ev} (h : PlW w0 w S F a cap l (x :: q) now seq) :
    Calls Tryd.prog 7 #[.pointer (some ⟨S, 0, none⟩)] w fun e w' => e = .returned (.tuple #[.agg #[.int .i64 x.t, .int .i64 x.id], .nilIface]) ∧ PlW w0 w' S F a cap l q x.t seq ∧ Only w w' F := by
  refine (Next_some S _ F x q now seq w h.sim).mono ?_
  rintro e w' ⟨rfl, s, o⟩
  exact ⟨rfl, h.sim' s (fun k hk => .inl hk) o, o⟩
theorem UntilP_no {T : Int} (h : PlW w0 w S F a cap l q now seq) (hc : untilC now T ≠ 0) :
    Calls Tryd.prog 9 #[.pointer (some ⟨S, 0, none⟩), .int .i64 T] w fun e w' => e = .returned (.tuple #[.slice none 0 0, .iface 50 (.int .i64 (untilC now T))]) ∧ w = w' := Until_no S _ F q now seq T w h.sim hc
theorem UntilP_yes {T : Int} (h : PlW w0 w S F a cap l q now seq) (hc : untilC now T = 0) :
    Calls Tryd.prog 9 #[.pointer (some ⟨S, 0, none⟩), .int .i64 T] w fun e w' => ∃ ao capo, e = .returned (.tuple #[.slice ao (q.takeWhile (tillB T)).length capo, .nilIface]) ∧ EtOwn w' w.heap.size ao capo (q.takeWhile (tillB T)) ∧ PlW w0 w' S F a cap l (q.dropWhile (tillB T)) T seq ∧ Only w w' F := by
  refine (Until_yes S _ F q now seq T w h.sim hc).mono ?_
  rintro e w' ⟨ao, capo, rfl, ho, s, o⟩
  exact ⟨ao, capo, rfl, ho, h.sim' s (fun k hk => .inl hk) o, o⟩
theorem DropP (id : Int) (h : PlW w0 w S F a cap l q now seq) :
    Calls Tryd.prog 11 #[.pointer (some ⟨S, 0, none⟩), .int .i64 id] w fun e w' => e = .returned (.int .i64 (q.filter (sameId id)).length) ∧ ∃ F', PlW w0 w' S F' a cap l (q.filter (offId id)) now seq := by
  refine (Drop_any S _ F q now seq id w h.below.size h.sim).mono ?_
  rintro e w' ⟨rfl, s, o⟩
  exact ⟨rfl, _, h.sim' s (fun k hk => hk.imp_right (fun c => c.1)) o⟩
theorem PlanP_no {t id : Int} (h : PlW w0 w S F a cap l q now seq) (hc : planC q now t id ≠ 0) :
    Calls Tryd.prog 12 #[.pointer (some ⟨S, 0, none⟩), .agg #[.int .i64 t, .int .i64 id]] w fun e w' => e = .returned (.iface 50 (.int .i64 (planC q now t id))) ∧ PlW w0 w' S F a cap l q now seq := by
  refine (Plan_no S _ F q now seq t id w h.sim hc).mono ?_
  rintro e w' ⟨rfl, o⟩
  exact ⟨rfl, h.still o⟩
theorem PlanP_yes {t id : Int} (h : PlW w0 w S F a cap l q now seq) (hc : planC q now t id = 0) (hs : seq ≤ 1000000) :
    Calls Tryd.prog 12 #[.pointer (some ⟨S, 0, none⟩), .agg #[.int .i64 t, .int .i64 id]] w fun e w' => e = .returned .nilIface ∧ ∃ F', PlW w0 w' S F' a cap l (ins ⟨t, id, seq + 1⟩ q) now (seq + 1) := by
  refine (Plan_yes S _ F q now seq t id w h.below.size h.sim hc hs).mono ?_
  rintro e w' ⟨rfl, s, o⟩
  exact ⟨rfl, _, h.sim' s (fun k hk => hk.imp_right (fun c => c.1)) o⟩
theorem NowP (h : PlW w0 w S F a cap l q now seq) : Calls Tryd.prog 13 #[.pointer (some ⟨S, 0, none⟩)] w fun e w' => e = .returned (.int .i64 now) ∧ w = w' := Now_any S _ F q now seq w h.sim
theorem ManyP (h : PlW w0 w S F a cap l q now seq) : Calls Tryd.prog 14 #[.pointer (some ⟨S, 0, none⟩)] w fun e w' => e = .returned (.int .i64 q.length) ∧ w = w' := Many_any S _ F q now seq w h.sim
end
theorem NewP (w0 : World) : Calls Tryd.prog 4 #[] w0 fun e w' => ∃ S F, e = .returned (.pointer (some ⟨S, 0, none⟩)) ∧ PlW w0 w' S F none 0 [] [] 0 0 := by
  refine (New_any w0).mono ?_
  rintro e w' ⟨S, rfl, hs, b⟩
  exact ⟨S, _, rfl, hs, EtOwn.nil _ _, fun k hk => by simp [Value.ownBlock] at hk, b⟩

/-! ### what is told, compared -/
theorem event_guard (op : BinOp) (x y : Operand) (xs ys : Array Value) (w : World) : (eqGuard op 28 x y (.agg xs) (.agg ys)).run Tryd.prog w = .ok () w := run_eqGuard_agg w op _ x y xs ys (by kernel_rfl)
theorem event_neq (t i : Int) (w : World) : (binOp .neq 28 (.agg #[.int .i64 t, .int .i64 i]) (.agg #[.int .i64 t, .int .i64 i])).run Tryd.prog w = .ok (.bool false) w := by
  have u3 := Tryd.underlying3
  have a3 := Tryd.isAgg3
  have z3 := Tryd.sizeOf3
  have hS : Tryd.prog.underlying 28 = some (.struct (Tryd.prog.fieldsOf 28)) := by kernel_rfl
  have hp : Tryd.prog.stoodInHeld 28 = false := by kernel_rfl
  rw [run_neq_struct, show (10000 : Nat) = 9999 + 1 from rfl, run_equalIn_agg w 9999 28 _ _ hS hp]
  simp only [Program.fieldsOf, Tryd.underlying28]
  go_simp
set_option maxHeartbeats 1000000 in
theorem events_same (l : List Ev) (a b : Option Addr) (n cap cap' B B' : Nat) (hn : n = l.length) (w : World) (hx : EtOwn w B a cap l) (hy : EtOwn w B' b cap' l) (hl : l.length ≤ 100000) :
    Calls Tryd.prog 10 #[.slice a n cap, .slice b n cap'] w fun e w' => e = .returned (.bool true) ∧ ∃ q, w' = w.drewN q := by
  subst hn
  have hne : ((l.length : Int) != (l.length : Int)) = false := by simp
  have hgd := event_guard
  have hnq := event_neq
  go_enter Tryd.func10, Tryd.ntmps10
  go_wp2
  go_loopw [5] (fun i wr => ∃ k : Nat, i = .int .i64 k ∧ k ≤ l.length ∧ ∃ q, wr = w.drewN q) (fun i _ => l.length - (intOf i).toNat)
  case atStart => exact ⟨0, rfl, Nat.zero_le _, 0, rfl⟩
  case round =>
    obtain ⟨k, rfl, hk, q, rfl⟩ := hrel
    rcases Nat.lt_or_ge k l.length with hlt | hge
    · obtain ⟨g, rfl, _, _, hc⟩ := hx.open (by omega)
      obtain ⟨g', rfl, _, _, hc'⟩ := hy.open (by omega)
      obtain ⟨x1, x2⟩ := hc k hlt
      obtain ⟨y1, y2⟩ := hc' k hlt
      have hkI : (k : Int) < (l.length : Int) := by omega
      clear hc hc'
      generalize l.getD k e0 = p at *
      obtain ⟨pt, pi, ps⟩ := p
      simp only at x1 x2 y1 y2
      go_wp2
      go_quiet (fail)
      go_wp2
      go_roundw
      case rel => exact ⟨k + 1, by go_num, by omega, _, by first | rfl | rw [World.drewN_drewN]⟩
      case measure => simp only [intOf]; omega
    · obtain rfl : l.length = k := by omega
      have h3 : decide (l.length < l.length) = false := by simp
      go_wp2
      go_ret
      exact ⟨rfl, q, rfl⟩
theorem Err0 (w : World) (hg : Handle w) : Calls Tryd.prog 8 #[.nilIface, .int .i64 0] w fun e w' => e = .returned (.bool true) ∧ Below w.heap.size w w' := Error_any 0 0 w hg
theorem Err1 (n : Int) (hn : n ≠ 0) (w : World) (hg : Handle w) : Calls Tryd.prog 8 #[.iface 50 (.int .i64 n), .int .i64 n] w fun e w' => e = .returned (.bool true) ∧ Below w.heap.size w w' := by
  have := Error_any n n w hg
  rw [errV_bad hn] at this
  exact this.mono fun e w' h => ⟨by rw [h.1]; simp, h.2⟩
end Go.Proofs.YtominbodniikpaaDoor
