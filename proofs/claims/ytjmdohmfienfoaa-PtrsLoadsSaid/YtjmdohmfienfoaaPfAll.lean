/-
  Layer 11: what ptrs.All and ptrs.Used answer: they range over a function, which the reader does not read.
-/
import Derived.RangeFuncBox
import Derived.RangeFuncNested
import Derived.RangeFuncLeaves
import Derived.Shelf.Abstract
import Derived.WalkKit
import Derived.OwnWalkIn
import Derived.TacticsInMore
import Derived.LoopNIn
import Derived.LoopIn
import Derived.Maps.AppendAt
import Derived.Test.YtjmdohmfienfoaaPPfAt
import Derived.Test.YtjmdohmfienfoaaSyCode
namespace Go.Proofs.Ytjmdohmfienfoaa
open Go.RowKit Go.Shelf Go.Sy

attribute [local go_sem] Oper.semAt_some

/-- a load as the machine's value -/
def ldC (p : List UInt8) : Array Value := (p.map fun x => Value.int .u8 x.toNat).toArray
theorem ldC_fit (W : World) (im : Bool → Nat → Prop) (β : Beta) (p : List UInt8) : VR W im β (.agg (u8l p)) (.agg (ldC p)) := by
  refine .agg _ _ (by simp [ldC, u8l]) (fun i y hy => ?_) (fun i x y hx hy => ?_)
  · unfold ldC at hy
    rw [List.getElem?_toArray, List.getElem?_map, Option.map_eq_some_iff] at hy
    obtain ⟨b, _, rfl⟩ := hy
    rfl
  · unfold ldC at hy
    unfold u8l at hx
    rw [List.getElem?_toArray, List.getElem?_map, Option.map_eq_some_iff] at hy
    rw [List.getElem?_map, Option.map_eq_some_iff] at hx
    obtain ⟨b, hb, rfl⟩ := hy
    obtain ⟨b', hb', rfl⟩ := hx
    rw [hb, Option.some.injEq] at hb'
    subst hb'
    exact .v _
theorem at_calls (p : List UInt8) (hp : p.length = 54) (k : Nat) (hk : k < 27) (W : World) :
    Calls Try.prog 15 #[.agg (ldC p), .int .i64 k] W fun e W' => e = .returned (.tuple #[.int .u16 (Pre.ptV p k), .int .i64 0]) ∧ Below W.heap.size W W' := by
  have h := Pre.At_ev (n := 30) (by omega) p hp k
  unfold Pre.atV at h
  rw [if_pos (by omega)] at h
  unfold cf at h
  rw [Option.map_eq_some_iff] at h
  obtain ⟨⟨r, bx'⟩, h1, h2⟩ := h
  refine ((evFn_sound Pre.ext0_ok 30 15 _ [] r bx' h1).2 (G0 W) W [] #[.agg (ldC p), .int .i64 k] rfl (MR.none W) rfl ?_).mono ?_
  · intro i x v hx hv
    rcases i with _ | _ | i
    · simp at hx hv
      subst hx hv
      exact ldC_fit _ _ _ _
    · simp at hx hv
      subst hx hv
      exact .v _
    · simp at hx
  · rintro e w' ⟨v, β', rfl, e1, m1, v1⟩
    have hf := frz_ok m1 false 6 (im2 := fun _ _ => True) (β2 := []) v1 (fun _ _ _ _ => trivial) (fun _ _ _ _ => trivial)
    rw [h2] at hf
    refine ⟨?_, e1.out.1, e1.out.2.2, e1.out.2.1, e1.sz, fun i hi => e1.old i hi (fun ⟨b, o, hb⟩ => by simp at hb)⟩
    cases hf with
    | tup _ c hs hc =>
      obtain ⟨c⟩ := c
      match c, hs with
      | [a, b], _ =>
        have ha := hc 0 _ _ rfl rfl
        have hb := hc 1 _ _ rfl rfl
        cases ha
        cases hb
        rfl
theorem grown_of_below {W W' : World} (h : Below W.heap.size W W') : W.grownBy W' none := ⟨h.os, h.tape, h.output, h.size, fun k hk _ => h.block k hk⟩

/-- what has come when k rounds are over -/
def upto {α : Type} (f : Nat → α) (k : Nat) : List α := (List.range k).map f
theorem upto_succ {α : Type} (f : Nat → α) (k : Nat) : upto f (k + 1) = upto f k ++ [f k] := by simp [upto, List.range_succ]
theorem upto_length {α : Type} (f : Nat → α) (k : Nat) : (upto f k).length = k := by simp [upto]

theorem load_ld (p : List UInt8) (hp : p.length = 54) (b : Nat) (wr : World) (h : wr.heap[b]? = some (.cells (ldC p) 40 (0, 0))) :
    (Instr.loadAt 40 (.pointer (some ⟨b, 0, none⟩))).run Try.prog wr = .ok (.agg (ldC p)) wr := by
  have hg : agA Try.prog 40 = some true := by kernel_rfl
  have hs : szA Try.prog 40 = some 54 := by kernel_rfl
  have hl : (ldC p).size = 54 := by simp [ldC, hp]
  let f : Nat → Value := fun i => (ldC p).getD i undef
  have hf : ∀ j, j < 54 → wr.cell? ((⟨b, 0, none⟩ : Addr).add j) = some (f j) := by
    intro j hj
    rw [addr_add]
    simp only [World.cell?, h, Nat.zero_add]
    show (ldC p)[j]? = some ((ldC p).getD j undef)
    rw [Array.getElem?_eq_getElem (by omega), Array.getD_eq_getD_getElem?, Array.getElem?_eq_getElem (by omega)]
    rfl
  have e : ((List.range 54).map f).toArray = ldC p := by
    apply Array.ext
    · simp [hl]
    · intro i h1 h2
      simp only [List.getElem_toArray, List.getElem_map, List.getElem_range]
      show (ldC p).getD i undef = _
      rw [Array.getD_eq_getD_getElem?, Array.getElem?_eq_getElem h2]
      rfl
  have hr : (loadVar 40 ⟨b, 0, none⟩).run Try.prog wr = .ok (.agg (ldC p)) wr := by
    simp only [loadVar, Sem.run_bind, run_agA hg, Result.andThen_ok, if_true, run_szA hs]
    rw [run_loadCells wr _ 54 f hf, ← e]
    rfl
  simpa [Instr.loadAt, Instr.sureAddr] using hr
theorem arm_load {F : Fence} {n : Nat} {P : Program} (w : World) {ops : Array Oper} {rest : List Oper} {o : Oper} {a : Act} {Q : Exit → Act → World → Prop}
    (hg : o.guard = none) (x : Operand) (t : TypeId) (hop : o.op = Op.load t x) (v u : Value) (hrun : (Instr.loadAt t u).run P w = .ok v w) (hx : a.eval x = u)
    (hK : wpListIn F n P ops Q rest (a.put o.dst v) w) : wpListIn F n P ops Q (o :: rest) a w := by
  refine wpListIn_plain hg fun K hK' => ?_
  unfold Oper.wpIn
  refine ⟨by simp [Oper.about, hop], ?_⟩
  rw [Oper.semAt_plain F _ _ (by rw [hop]; intro c hc'; cases hc')]
  simp [execOp, hop, hx, hrun, Result.andThen]
  exact hK' _ _ hK

/-- what a round keeps: the box of the iterator -/
def KeepsBox (Bs : Nat) (A B : World) : Prop := B.heap[Bs]? = A.heap[Bs]?

set_option maxRecDepth 100000 in
set_option maxHeartbeats 2000000 in
theorem each1_in (n : Nat) (hn : 1 ≤ n) (p : List UInt8) (hp : p.length = 54) (l Bs : Nat) (J Jx : List (Nat × Nat) → World → Prop) (W : World) (hJ : AbidesFrom W.heap.size J)
    (hY : ∀ pre x W, J pre W → pre.length < 27 → YieldAt Fence.wide (n - 1) Try.prog l #[.int .i64 (x.1 : Int), .int .u16 (x.2 : Int)] W fun e W' =>
      (e = .returned (.bool true) ∧ J (pre ++ [x]) W' ∧ KeepsBox Bs W W') ∨ (e = .returned (.bool false) ∧ Jx (pre ++ [x]) W'))
    (hB : W.heap[Bs]? = some (.cells (ldC p) 40 (0, 0))) (h0 : J [] W) :
    CallsIn Fence.wide n Try.prog 30 #[.func (.yield l) #[] #[], .pointer (some ⟨Bs, 0, none⟩)] W fun e W' => (∃ v, e = .returned v) ∧
      ((∃ ys, ys = upto (fun j => (j, Pre.ptV p j)) 27 ∧ J ys W') ∨ (∃ pre, (∃ k, k ≤ 27 ∧ pre = upto (fun j => (j, Pre.ptV p j)) k) ∧ Jx pre W')) := by
  refine callsIn_of_wp Try.func30 rfl trivial ?_ rfl
  simp only [Try.ntmps30, List.size_toArray, List.length_cons, List.length_nil, Nat.reduceAdd, Nat.reduceSub, Array.replicate_succ, Array.replicate_zero, List.push_toArray, List.append_toArray, List.nil_append, List.cons_append]
  gi_wp2
  gi_loopw [6] (fun i wr => ∃ k : Nat, k ≤ 27 ∧ i = .int .i64 k ∧ J (upto (fun j => (j, Pre.ptV p j)) k) wr ∧ wr.heap[Bs]? = some (.cells (ldC p) 40 (0, 0)))
    (fun i _ => 27 - (intOf i).toNat)
  case atStart => exact ⟨0, Nat.zero_le _, rfl, h0, hB⟩
  case round =>
    obtain ⟨k, hk, rfl, hJs, hnx⟩ := hrel
    have hld := load_ld p hp Bs wr hnx
    by_cases hlt : k < 27
    · gi_wp2_with (first | (refine arm_load _ rfl _ 40 rfl _ _ hld rfl ?_) | (refine ⟨trivial, ?_⟩; gi_at_call 15; refine (callsIn_wide.2 (at_calls p hp k hlt _)).mono ?_; rintro e w' ⟨rfl, hbel⟩; obtain ⟨fn, tmps, assign, body, hy, hR⟩ := hY _ (k, Pre.ptV p k) w' (hJ _ _ _ none hJs (grown_of_below hbel) (fun _ h => by cases h)) (by rw [upto_length]; exact hlt); dsimp only at hy))
      refine hR.mono ?_
      rintro e W3 (⟨rfl, hJ3, hk3⟩ | ⟨rfl, hJx3⟩)
      · gi_wp2
        go_roundw
        case rel => exact ⟨k + 1, by omega, by simp, by rw [upto_succ]; exact hJ3, (hk3.trans (hbel.block Bs (Array.getElem?_eq_some_iff.1 hnx).1)).trans hnx⟩
        case measure => simp [intOf]; omega
      · gi_wp2
        refine bodyPost_ret (results_none rfl _ _ _) rfl ?_
        exact ⟨⟨_, rfl⟩, .inr ⟨_, ⟨k + 1, by omega, (upto_succ _ _).symm⟩, hJx3⟩⟩
    · obtain rfl : k = 27 := by omega
      gi_wp2
      go_end0
      exact ⟨⟨_, rfl⟩, .inl ⟨_, rfl, hJs⟩⟩

set_option maxHeartbeats 1000000 in
theorem each_in (n : Nat) (p : List UInt8) (w : World) :
    CallsIn Fence.wide n Try.prog 27 #[.agg (ldC p)] w fun e w' => e = .returned (.func (.func 30) #[] #[.pointer (some ⟨w.heap.size, 0, none⟩)]) ∧ w' = w.alloc (.cells (ldC p) 40) := by
  refine callsIn_of_wp Try.func27 rfl trivial ?_ rfl
  simp only [Try.ntmps27, List.size_toArray, List.length_cons, List.length_nil, Nat.reduceAdd, Nat.reduceSub, Array.replicate_succ, Array.replicate_zero, List.push_toArray, List.append_toArray, List.nil_append, List.cons_append]
  gi_wp2
  go_ret
  exact ⟨rfl, rfl⟩
abbrev encP : Nat × Nat → Array Value := fun x => #[Value.int .i64 (x.1 : Int), Value.int .u16 (x.2 : Int)]
theorem each_stops (n : Nat) (hn : 1 ≤ n) (p : List UInt8) (hp : p.length = 54) (Bs : Nat) (w : World) (hB : w.heap[Bs]? = some (.cells (ldC p) 40 (0, 0))) :
    SeqStopsK Fence.wide n Try.prog 30 #[.pointer (some ⟨Bs, 0, none⟩)] encP (KeepsBox Bs) (fun ys => ys = upto (fun j => (j, Pre.ptV p j)) 27)
      (fun pre => ∃ k, k ≤ 27 ∧ pre = upto (fun j => (j, Pre.ptV p j)) k) 27 w := fun l J Jx W hW hJ _ hY h0 =>
  each1_in n hn p hp l Bs J Jx W hJ hY ((hW.block Bs (Array.getElem?_eq_some_iff.1 hB).1).trans hB) h0

theorem info16 : (Try.prog.info? 41).map (fun i => (i.zero, i.size, i.bytes)) = some (some (.int .u16 0), 1, 2) := by kernel_rfl
def wds (l : List (Nat × Nat)) : List Value := l.map fun x => Value.int .u16 (x.2 : Int)
theorem wds_snoc (l : List (Nat × Nat)) (x : Nat × Nat) : wds (l ++ [x]) = wds l ++ [Value.int .u16 (x.2 : Int)] := by simp [wds]

set_option maxRecDepth 100000 in
set_option maxHeartbeats 4000000 in
theorem all_in (n : Nat) (hn : 3 ≤ n) (p : List UInt8) (hp : p.length = 54) (w : World) :
    CallsIn Fence.wide n Try.prog 19 #[.agg (ldC p)] w fun e W' => ∃ v, e = .returned v ∧ W'.ownsRow w.heap.size 41 1 v 27 (wds (upto (fun j => (j, Pre.ptV p j)) 27)) ∧ Below w.heap.size w W' := by
  have h1 : 1 ≤ n := by omega
  obtain ⟨i0, hi, hz0, hz1, hz2⟩ := info_parts info16
  refine callsIn_of_wp_marks Try.func19 rfl trivial ?_ rfl
  simp only [Try.ntmps19, List.size_toArray, List.length_cons, List.length_nil, Nat.reduceAdd, Nat.reduceSub, Array.replicate_succ, Array.replicate_zero, List.push_toArray, List.append_toArray, List.nil_append, List.cons_append]
  have bP : (w.alloc (.cells (ldC p) 40)).heap[w.heap.size]? = some (.cells (ldC p) 40 (0, 0)) := World.alloc_heap_new w _
  have bP2 : ((w.alloc (.cells (ldC p) 40)).alloc (.cells #[.slice none 0 0] 46)).heap[w.heap.size]? = some (.cells (ldC p) 40 (0, 0)) := (Below.heap_alloc _ _ _ (by simp)).trans bP
  have hld := load_ld p hp w.heap.size _ bP2
  gi_wp2_with (first | (refine arm_load _ rfl _ 40 rfl _ _ hld rfl ?_) | (refine ⟨trivial, ?_⟩; gi_at_call 27; refine (each_in _ p _).mono ?_; rintro e w' ⟨rfl, rfl⟩))
  have bO : Boxed (((w.alloc (.cells (ldC p) 40)).alloc (.cells #[.slice none 0 0] 46)).alloc (.cells (ldC p) 40)) (w.heap.size + 1) 46 (.slice none 0 0) := by
    have := Boxed.new (w.alloc (.cells (ldC p) 40)) 46 (.slice none 0 0)
    rw [World.size_alloc] at this
    exact this.alloc _
  have hsz : (((w.alloc (.cells (ldC p) 40)).alloc (.cells #[.slice none 0 0] 46)).alloc (.cells (ldC p) 40)).heap.size = w.heap.size + 3 := by simp
  have hsz2 : ((w.alloc (.cells (ldC p) 40)).alloc (.cells #[.slice none 0 0] 46)).heap.size = w.heap.size + 2 := by simp
  have bQ : (((w.alloc (.cells (ldC p) 40)).alloc (.cells #[.slice none 0 0] 46)).alloc (.cells (ldC p) 40)).heap[w.heap.size + 2]? = some (.cells (ldC p) 40 (0, 0)) := by
    have := World.alloc_heap_new ((w.alloc (.cells (ldC p) 40)).alloc (.cells #[.slice none 0 0] 46)) (.cells (ldC p) 40)
    rwa [hsz2] at this
  have hB0 : Below w.heap.size w (((w.alloc (.cells (ldC p) 40)).alloc (.cells #[.slice none 0 0] 46)).alloc (.cells (ldC p) 40)) := (((Below.refl _ w).alloc (Nat.le_refl _) _).alloc (by simp) _).alloc (by simp; omega) _
  refine wpIn_rangeFunc_ownG rfl h1 (gf := 30) (lb := #[.pointer (some ⟨w.heap.size + 1 + 1, 0, none⟩)]) rfl trivial (enters_of Try.func30 (by kernel_rfl) rfl)
    (each_stops (n - 1) (by omega) p hp (w.heap.size + 2) _ bQ) (fun h k => Eq.trans k h) (fun W l o o' hl ho hc _ => by
      show (W.putObj l o').heap[w.heap.size + 2]? = W.heap[w.heap.size + 2]?
      have := (grownBy_putObj' W l o').block (w.heap.size + 2)
      refine this ?_ (fun e => ?_)
      · have := (Array.getElem?_eq_some_iff.1 ho).1
        rw [hsz] at hl
        omega
      · cases e
        rw [hsz] at hl
        omega) (Below.refl _ _) (fun _ => rfl)
    (fun pre W => ((∃ v, Boxed W (w.heap.size + 1) 46 v ∧ W.ownsRow w.heap.size 41 1 v pre.length (wds pre) ∧ (v = .slice none 0 0 ↔ pre = [])) ∧ W.heap[w.heap.size + 2]? = some (.cells (ldC p) 40 (0, 0))) ∧ Below w.heap.size w W)
    (fun _ _ _ => False)
    (OwnFrom.and (OwnFrom.and (Own.from (holdsRow_own w.heap.size (w.heap.size + 1) 46 41 1 (fun pre : List (Nat × Nat) => pre.length) (fun pre => wds pre) (fun pre v => v = .slice none 0 0 ↔ pre = [])) _) (fun s W W' row hs hg hr => by
      refine (hg.block _ (Array.getElem?_eq_some_iff.1 hs).1 (fun e => ?_)).trans hs
      obtain ⟨_, o, ho, hc⟩ := hr _ e.symm
      rw [hs] at ho
      cases ho
      cases hc)) (ownFrom_below (Nat.le_refl _) (by rw [hsz]; omega)))
    (fun _ _ _ _ _ hs _ _ => hs)
    ⟨⟨⟨_, bO, World.ownsRow_nil _ _ _ _, by simp⟩, bQ⟩, hB0⟩
    (fun x => { tmps := #[.agg (ldC p), .pointer (some ⟨w.heap.size, 0, none⟩), .slice none 0 0, .pointer (some ⟨w.heap.size + 1, 0, none⟩), undef, .int .u16 (x.2 : Int), .agg (ldC p), .func (.func 30) #[] #[.pointer (some ⟨w.heap.size + 1 + 1, 0, none⟩)], .int .i64 (x.1 : Int), .int .u16 (x.2 : Int), undef, undef, undef, undef, undef], defers := [] }) ?assign ?body ?done ?stop
  case assign =>
    intro l x W K hK
    gi_wp2
    exact hK
  case body =>
    rintro l pre x W ⟨⟨⟨v, hv, hrow, hnil⟩, hQ⟩, hB⟩ hlt
    have hc := hv.cell
    gi_wp2_with (gi_at_builtin; refine wpListIn_append_own _ rfl _ _ 46 rfl w.heap.size 41 i0 (.int .u16 0) 1 2 Try.underlying46 hi hz0 hz1 hz2 rfl (by decide) _ _ _ rfl (hrow.alloc _) ⟨W.heap.size, 0, none⟩ 1 1 [.int .u16 (x.2 : Int)] rfl rfl (cell_one_new _ _ _) (by simp [Value.oneCell']) (by simp [maxLen]; omega) (by omega) (by have := hB.size; simp; omega) ?_; intro v' w1 hown' hgrow _; obtain ⟨g', cap', rfl⟩ := ownsRow_succ hown'; obtain ⟨hv1, hv2, hr2, hk2, hb2⟩ := hv.appended (by decide) hrow hB.size (Nat.le_succ _) hown' hgrow; have hc1 := hv1.cell; have hf1 := hv1.frozen)
    have hne : some (w.heap.size + 2) ≠ v.ownBlock := by
      intro e
      rcases hrow.2 with ⟨rfl, _⟩ | ⟨g, cap, cur, rfl, _, hgb, _⟩
      · cases e
      · have e' : w.heap.size + 2 = g := by simpa [Value.ownBlock] using e
        rw [← e', hQ] at hgb
        cases hgb
    have hq : (w1.setCell ⟨w.heap.size + 1, 0, none⟩ (.slice (some ⟨g', 0, none⟩) (pre.length + 1) cap')).heap[w.heap.size + 2]? = W.heap[w.heap.size + 2]? := by
      have hlt2 := (Array.getElem?_eq_some_iff.1 hQ).1
      rw [Below.heap_setCell _ _ _ _ (by simp), hgrow.block _ (by rw [World.size_alloc]; omega) hne, Below.heap_alloc _ _ _ hlt2]
    exact ⟨hk2.from _, hq, ⟨⟨_, hv2, by rw [wds_snoc]; simpa using hr2, by simp⟩, hq.trans hQ⟩, hB.trans hb2⟩
  case done =>
    rintro D ys W hD rfl ⟨⟨⟨v, hv, hrow, hnil⟩, hQ⟩, hB⟩ hK
    have hc := hv.cell
    gi_wp2
    refine ⟨by simp, .inl ⟨_, _, rfl, run_takeDeferred hK, ?_⟩⟩
    rw [upto_length] at hrow
    exact ⟨_, results_tmp rfl _ _ _, v, rfl, ownsRow_putObj hrow _ hK rfl, hB.trans (belowK_b (w := w) (Nat.le_refl _) W D _ _ (by rw [hsz] at hD; omega) hK rfl rfl)⟩
  case stop =>
    rintro D c pre W _ _ h _
    exact h.elim

/-- how many are not 0 -/
def usd (l : List (Nat × Nat)) : Nat := (l.filter fun x => x.2 != 0).length
theorem usd_hit (l : List (Nat × Nat)) (x : Nat × Nat) (h : x.2 ≠ 0) : usd (l ++ [x]) = usd l + 1 := by simp [usd, h]
theorem usd_miss (l : List (Nat × Nat)) (x : Nat × Nat) (h : x.2 = 0) : usd (l ++ [x]) = usd l := by simp [usd, h]
theorem usd_le (l : List (Nat × Nat)) : usd l ≤ l.length := List.length_filter_le _ _
set_option maxRecDepth 100000 in
set_option maxHeartbeats 4000000 in
theorem used_in (n : Nat) (hn : 3 ≤ n) (p : List UInt8) (hp : p.length = 54) (w : World) :
    CallsIn Fence.wide n Try.prog 21 #[.agg (ldC p)] w fun e W' => e = .returned (.int .i64 (usd (upto (fun j => (j, Pre.ptV p j)) 27))) ∧ Below w.heap.size w W' := by
  have h1 : 1 ≤ n := by omega
  refine callsIn_of_wp_marks Try.func21 rfl trivial ?_ rfl
  simp only [Try.ntmps21, List.size_toArray, List.length_cons, List.length_nil, Nat.reduceAdd, Nat.reduceSub, Array.replicate_succ, Array.replicate_zero, List.push_toArray, List.append_toArray, List.nil_append, List.cons_append]
  have bP : (w.alloc (.cells (ldC p) 40)).heap[w.heap.size]? = some (.cells (ldC p) 40 (0, 0)) := World.alloc_heap_new w _
  have bP2 : ((w.alloc (.cells (ldC p) 40)).alloc (.cells #[.int .i64 0] 3)).heap[w.heap.size]? = some (.cells (ldC p) 40 (0, 0)) := (Below.heap_alloc _ _ _ (by simp)).trans bP
  have hld := load_ld p hp w.heap.size _ bP2
  gi_wp2_with (first | (refine arm_load _ rfl _ 40 rfl _ _ hld rfl ?_) | (refine ⟨trivial, ?_⟩; gi_at_call 27; refine (each_in _ p _).mono ?_; rintro e w' ⟨rfl, rfl⟩))
  have bO : Boxed (((w.alloc (.cells (ldC p) 40)).alloc (.cells #[.int .i64 0] 3)).alloc (.cells (ldC p) 40)) (w.heap.size + 1) 3 (.int .i64 0) := by
    have := Boxed.new (w.alloc (.cells (ldC p) 40)) 3 (.int .i64 0)
    rw [World.size_alloc] at this
    exact this.alloc _
  have hsz : (((w.alloc (.cells (ldC p) 40)).alloc (.cells #[.int .i64 0] 3)).alloc (.cells (ldC p) 40)).heap.size = w.heap.size + 3 := by simp
  have hsz2 : ((w.alloc (.cells (ldC p) 40)).alloc (.cells #[.int .i64 0] 3)).heap.size = w.heap.size + 2 := by simp
  have bQ : (((w.alloc (.cells (ldC p) 40)).alloc (.cells #[.int .i64 0] 3)).alloc (.cells (ldC p) 40)).heap[w.heap.size + 2]? = some (.cells (ldC p) 40 (0, 0)) := by
    have := World.alloc_heap_new ((w.alloc (.cells (ldC p) 40)).alloc (.cells #[.int .i64 0] 3)) (.cells (ldC p) 40)
    rwa [hsz2] at this
  have hB0 : Below w.heap.size w (((w.alloc (.cells (ldC p) 40)).alloc (.cells #[.int .i64 0] 3)).alloc (.cells (ldC p) 40)) := (((Below.refl _ w).alloc (Nat.le_refl _) _).alloc (by simp) _).alloc (by simp; omega) _
  refine wpIn_rangeFunc_ownG rfl h1 (gf := 30) (lb := #[.pointer (some ⟨w.heap.size + 1 + 1, 0, none⟩)]) rfl trivial (enters_of Try.func30 (by kernel_rfl) rfl)
    (each_stops (n - 1) (by omega) p hp (w.heap.size + 2) _ bQ) (fun h k => Eq.trans k h) (fun W l o o' hl ho hc _ => by
      show (W.putObj l o').heap[w.heap.size + 2]? = W.heap[w.heap.size + 2]?
      have := (grownBy_putObj' W l o').block (w.heap.size + 2)
      refine this ?_ (fun e => ?_)
      · have := (Array.getElem?_eq_some_iff.1 ho).1
        rw [hsz] at hl
        omega
      · cases e
        rw [hsz] at hl
        omega) (Below.refl _ _) (fun _ => rfl)
    (fun pre W => (Boxed W (w.heap.size + 1) 3 (.int .i64 (usd pre)) ∧ W.heap[w.heap.size + 2]? = some (.cells (ldC p) 40 (0, 0))) ∧ Below w.heap.size w W)
    (fun _ _ _ => False)
    (OwnFrom.and (OwnFrom.and (fun s W W' row hs hg hr => by
      refine hs.kept hg (fun e => ?_)
      obtain ⟨_, o, ho, hc⟩ := hr _ e.symm
      rw [show W.heap[w.heap.size + 1]? = _ from hs] at ho
      cases ho
      cases hc) (fun s W W' row hs hg hr => by
      refine (hg.block _ (Array.getElem?_eq_some_iff.1 hs).1 (fun e => ?_)).trans hs
      obtain ⟨_, o, ho, hc⟩ := hr _ e.symm
      rw [hs] at ho
      cases ho
      cases hc)) (ownFrom_below (Nat.le_refl _) (by rw [hsz]; omega)))
    (fun _ _ _ _ _ hs _ _ => hs)
    ⟨⟨bO, bQ⟩, hB0⟩
    (fun x => { tmps := #[.agg (ldC p), .pointer (some ⟨w.heap.size, 0, none⟩), .int .i64 0, .pointer (some ⟨w.heap.size + 1, 0, none⟩), undef, .int .u16 (x.2 : Int), .agg (ldC p), .func (.func 30) #[] #[.pointer (some ⟨w.heap.size + 1 + 1, 0, none⟩)], .int .i64 (x.1 : Int), .int .u16 (x.2 : Int), undef, undef, undef, undef, undef], defers := [] }) ?assign ?body ?done ?stop
  case assign =>
    intro l x W K hK
    gi_wp2
    exact hK
  case body =>
    rintro l pre x W ⟨⟨hv, hQ⟩, hB⟩ hlt
    have hc := hv.cell
    have hf := hv.frozen
    have hul := usd_le pre
    have hwr : RowKit.wrap64 ((usd pre : Int) + 1) = (usd pre : Int) + 1 := by unfold RowKit.wrap64; omega
    by_cases hz : x.2 = 0
    · have hz' : ((x.2 : Int) = 0) = True := by simp [hz]
      gi_wp2
      all_goals first
        | (exfalso; simp_all; done)
        | exact ⟨KeepsFrom.refl _ _, rfl, ⟨⟨by rw [usd_miss pre x hz]; exact hv, hQ⟩, hB⟩⟩
    · have hz' : ((x.2 : Int) = 0) = False := by simp [hz]
      gi_wp2
      have hq : (W.setCell ⟨w.heap.size + 1, 0, none⟩ (.int .i64 ((usd pre : Int) + 1))).heap[w.heap.size + 2]? = W.heap[w.heap.size + 2]? := Below.heap_setCell _ _ _ _ (by simp)
      exact ⟨(KeepsOthers.setCell _ _ _).from _, hq, ⟨⟨by rw [usd_hit pre x hz]; exact hv.set _, hq.trans hQ⟩, hB.setCell (p := ⟨w.heap.size + 1, 0, none⟩) (Nat.le_succ _) _⟩⟩
  case done =>
    rintro D ys W hD rfl ⟨⟨hv, hQ⟩, hB⟩ hK
    have hc := hv.cell
    gi_wp2
    refine ⟨by simp, .inl ⟨_, _, rfl, run_takeDeferred hK, ?_⟩⟩
    exact ⟨_, results_tmp rfl _ _ _, rfl, hB.trans (belowK_b (w := w) (Nat.le_refl _) W D _ _ (by rw [hsz] at hD; omega) hK rfl rfl)⟩
  case stop =>
    rintro D c pre W _ _ h _
    exact h.elim
end Go.Proofs.Ytjmdohmfienfoaa
