/-
  The parts of the document's New (layer 04), in the reader's words; no conditions. Layer 04: what the document's New does, whatever else lies there (two lists are made, in any order).
-/
import Derived.Test.YtijmfjpcjceejaaSyPiece
import Derived.Test.YtijmfjpcjceejaaPfDsk5
import Derived.Test.YtijmfjpcjceejaaProg
import Derived.KernelRfl
import Derived.Test.YtijmfjpcjceejaaPfCon3
namespace Go.Sy.Nw
open Go.Proofs
def cs1 : Code → Code
  | .seq a _ => a
  | c => c
def cs2 : Code → Code
  | .seq _ b => b
  | c => c
def cb : Code → Code
  | .block _ c => c
  | c => c
def cl : Code → Code
  | .loop c => c
  | c => c
def opsC : Code → Array Oper
  | .region _ o _ => o
  | _ => #[]
noncomputable def c_nwP0 : Code := cs1 (Try.f21.body.getD .skip)
noncomputable def F_nwP0 (_E : FnA) (_n _n0 : Nat) (x0 x1 : AV) (bx : Bx) : Option (Ex × S) :=
  some (.normal, ⟨[(5, (.v (Go.Value.int Go.IntKind.i64 0))), (4, (.v (Go.Value.pointer none))), (0, x0), (1, x1)], bx⟩)
theorem F_nwP0_eq (E : FnA) (n n0 : Nat) (x0 x1 : AV) (bx : Bx) : evK Try.prog md0 E 22 none n n0 c_nwP0 ⟨[(0, x0), (1, x1)], bx⟩ (fun s => some (.normal, s)) (fun i s => some (.exit i, s)) = F_nwP0 E n n0 x0 x1 bx := by kernel_rfl
theorem d_nwP0 : drawsOk Try.prog md0 c_nwP0 = true := by kernel_rfl
noncomputable def c_nwP1 : Code := cs1 (cs2 (Try.f21.body.getD .skip))
noncomputable def F_nwP1 (_E : FnA) (_n _n0 : Nat) (x0 x1 x4 x5 : AV) (bx : Bx) : Option (Ex × S) :=
  (pv bx (binA Try.prog .lss 3 x0 (.v (Go.Value.int Go.IntKind.i64 1)))).bind fun r1 =>
  (gsel false r1.2 (some (x0, r1.2)) r1.1).bind fun r2 =>
  (gsel false r2.2 (pv r2.2 (binA Try.prog .gtr 3 r2.1 (.v (Go.Value.int Go.IntKind.i64 2048)))) r1.1).bind fun r3 =>
  (pv r3.2 (pickA r1.1 (.v (Go.Value.bool true)) r3.1)).bind fun r4 =>
  condA r4.1 (some (.ret, ⟨[(5, (.v (Go.Value.int Go.IntKind.i64 2))), (4, (.v (Go.Value.pointer none))), (11, r4.1), (10, r3.1), (9, r2.1), (8, r1.1), (7, r1.1), (6, x0), (0, x0), (1, x1), (4, x4), (5, x5)], r4.2⟩)) (some (.normal, ⟨[(11, r4.1), (10, r3.1), (9, r2.1), (8, r1.1), (7, r1.1), (6, x0), (0, x0), (1, x1), (4, x4), (5, x5)], r4.2⟩))
theorem F_nwP1_eq (E : FnA) (n n0 : Nat) (x0 x1 x4 x5 : AV) (bx : Bx) : evK Try.prog md0 E 22 none n n0 c_nwP1 ⟨[(0, x0), (1, x1), (4, x4), (5, x5)], bx⟩ (fun s => some (.normal, s)) (fun i s => some (.exit i, s)) = F_nwP1 E n n0 x0 x1 x4 x5 bx := by kernel_rfl
theorem d_nwP1 : drawsOk Try.prog md0 c_nwP1 = true := by kernel_rfl
noncomputable def c_nwP2 : Code := cs1 (cs2 (cs2 (Try.f21.body.getD .skip)))
noncomputable def F_nwP2 (E : FnA) (_n _n0 : Nat) (x0 x1 x4 x5 : AV) (bx : Bx) : Option (Ex × S) :=
  (pv bx (binA Try.prog .eql 49 x1 (.v (Go.Value.pointer none)))).bind fun r1 =>
  condA r1.1 ((callA E md0 r1.2 20 []).bind fun r2 =>
  some (.normal, ⟨[(1, r2.1), (14, r2.1), (13, r1.1), (12, x1), (0, x0), (1, x1), (4, x4), (5, x5)], r2.2⟩)) (some (.normal, ⟨[(13, r1.1), (12, x1), (0, x0), (1, x1), (4, x4), (5, x5)], r1.2⟩))
theorem F_nwP2_eq (E : FnA) (n n0 : Nat) (x0 x1 x4 x5 : AV) (bx : Bx) : evK Try.prog md0 E 22 none n n0 c_nwP2 ⟨[(0, x0), (1, x1), (4, x4), (5, x5)], bx⟩ (fun s => some (.normal, s)) (fun i s => some (.exit i, s)) = F_nwP2 E n n0 x0 x1 x4 x5 bx := by kernel_rfl
theorem d_nwP2 : drawsOk Try.prog md0 c_nwP2 = true := by kernel_rfl
noncomputable def c_nwR5 : Code := cs1 (cs2 (cs2 (cs2 (Try.f21.body.getD .skip))))
end Go.Sy.Nw

namespace Go.Sy.Nw
open Go.Proofs

section
variable {P : Program}
/-- one operation among those that may come next: a list is made, where one was told of -/
theorem mk_any {G : Gh} {w : World} {β : Beta} {B bx0 : Bx} {N : Nat} {env env2 : Env} {a : Act} {ds : List Deferred} {ops : Array Oper} {Q : Exit → Act → World → Prop} {next : Act → World → Prop} {i : Nat} {o : Oper} {t d l : Nat} {vn : Value} {r : AV} {z : List AV}
    (ho : ops[i]? = some o) (hop : o.op = .makeSlice t (.tmp l) (.tmp l)) (hg : o.guard = none) (hd : o.dst = some d) (hr : makeSliceA P bx0 t (.v vn) (.v vn) = some (r, bx0 ++ [z])) (hM : MR G w β B) (hab : β[bx0.length]? = some .ab) (hB : B[bx0.length]? = some z)
    (hR : ER ds G w β N env a) (hl : get env l = .v vn) (hp : put N (some d) r env = some env2)
    (hK : ∀ v w' β', (∀ i, i ≠ bx0.length → β'[i]? = β[i]?) → MR G w' β' B → Ext G (· != bx0.length) w β w' β' → ER ds G w' β' N env2 (a.put (some d) v) → next (a.put (some d) v) w') : wpOp P ops Q i next a w := by
  refine wpOp_step ho fun K' hK' => ?_
  have hw : Region.wanted o (yielded ops a.tmps) = true := by simp [Region.wanted, hg]
  rw [hw, if_pos rfl]
  obtain ⟨dst, op, ty, pos, aft, gd⟩ := o
  simp only at hop hd hg
  subst hop hd hg
  have he : a.eval (.tmp l) = vn := hR.val hl
  obtain ⟨k', sz', z', c, E, h1, h2, h3, h4, h5, h6, h7, h8⟩ := makeSlice_run (w := w) (G := G) (β := β) hr (.v vn) (.v vn)
  simp only [List.append_cancel_left_eq, List.cons.injEq, and_true] at h2
  subst h1 h2
  obtain ⟨m1, e1, k1⟩ := MR.fill hM hab hB E h5 h7 h8
  refine wp_value (s := Instr.makeSlice t vn vn) (by show execOp a.eval _ = _; unfold execOp; simp only [he]) h4 (hK' _ _ (hK _ _ _ (fun i hi => List.getElem?_set_ne (Ne.symm hi)) m1 e1 (ER.put ⟨hR.sz, hR.df, fun t => k1 (hR.vr t)⟩ hp ?_)))
  exact .bsl _ 0 k' sz' w.heap.size 0 _ k' (List.getElem?_set_self (List.getElem?_eq_some_iff.mp hab).1) (Nat.le_refl _) h3 (.inl rfl) ⟨c, E, _, heap_alloc_new w _, by omega⟩
/-- one operation among those that may come next -/
theorem any_op {E : FnA} (hE : ∀ f args bx r bx', E f args bx = some (r, bx') → Sound P f args bx r bx') {md : FuncId → Md} {N n0 : Nat} {ops : Array Oper} {Q : Exit → Act → World → Prop} {next : Act → World → Prop} {G : Gh} {ds : List Deferred} {i : Nat} {o : Oper}
    {w : World} {β : Beta} {bx bx' : Bx} {env env' env2 : Env} {a : Act} {r : AV} (ho : ops[i]? = some o) (hg : o.guard = none) (hna : noApp o.op = true) (h : evOp P md E n0 env bx o.op = some (r, env', bx')) (hp : put N o.dst r env = some env2) (hM : MR G w β bx) (hR : ER ds G w β N env a)
    (hK : ∀ a' w' β', Ext G allq w β w' β' → MR G w' β' bx' → ER ds G w' β' N env2 a' → next a' w') : wpOp P ops Q i next a w := by
  refine wpOp_step ho fun K' hK' => ?_
  have hw : Region.wanted o (yielded ops a.tmps) = true := by simp [Region.wanted, hg]
  rw [hw, if_pos rfl]
  obtain ⟨_, hs⟩ := evOp_str hM hE h (fun x _ => hR.opnd x) hna
  refine hs K' Q fun v w' β' ⟨e1, m1, hv⟩ => hK' _ _ (hK _ _ _ e1 m1 (ER.put ⟨hR.sz, hR.df, fun t => e1.vr (hR.vr t)⟩ hp hv))
theorem any_one {md : Region.Mode} {ops : Array Oper} {Q : Exit → Act → World → Prop} {fuel i : Nat} {listed : Array Bool} {a : Act} {w : World} (hr : Region.ready md ops listed = [i])
    (h : wpOp P ops Q i (wpAny P md ops Q fuel (listed.setIfInBounds i true)) a w) : wpAny P md ops Q (fuel + 1) listed a w :=
  wpAny_all hr (by simp) fun j hj => by simp at hj; subst hj; exact h
end

theorem c_nwAll : Try.f21.body = some (.seq c_nwP0 (.seq c_nwP1 (.seq c_nwP2 (.seq c_nwR5 .ret)))) := by kernel_rfl
theorem c_nwR5E : c_nwR5 = .region 5 (opsC c_nwR5) true := by kernel_rfl
noncomputable abbrev O5 : Array Oper := opsC c_nwR5
noncomputable abbrev oo (i : Nat) : Oper := O5.getD i default
theorem o_get (i : Nat) (h : i < 9) : O5[i]? = some (oo i) := by
  have hs : O5.size = 9 := by kernel_rfl
  unfold oo
  rw [Array.getD_eq_getD_getElem?, Array.getElem?_eq_getElem (by omega)]
  rfl
theorem oo_op : (oo 0).op = .move (.tmp 1) ∧ (oo 1).op = .move (.tmp 0) ∧ (oo 2).op = .makeSlice 35 (.tmp 16) (.tmp 16) ∧ (oo 3).op = .move (.tmp 0) ∧ (oo 4).op = .makeSlice 55 (.tmp 18) (.tmp 18) :=
  ⟨by kernel_rfl, by kernel_rfl, by kernel_rfl, by kernel_rfl, by kernel_rfl⟩
theorem oo_op2 : (oo 5).op = .build 57 #[(0, .tmp 15), (1, .tmp 17), (2, .tmp 19)] ∧ (oo 6).op = .box 57 (.tmp 20) ∧ (oo 7).op = .assign (.tmp 21) ∧ (oo 8).op = .assign (.const (.int .i64 0)) :=
  ⟨by kernel_rfl, by kernel_rfl, by kernel_rfl, by kernel_rfl⟩
theorem oo_dst : (oo 0).dst = some 15 ∧ (oo 1).dst = some 16 ∧ (oo 2).dst = some 17 ∧ (oo 3).dst = some 18 ∧ (oo 4).dst = some 19 ∧ (oo 5).dst = some 20 ∧ (oo 6).dst = some 21 ∧ (oo 7).dst = some 4 ∧ (oo 8).dst = some 5 :=
  ⟨by kernel_rfl, by kernel_rfl, by kernel_rfl, by kernel_rfl, by kernel_rfl, by kernel_rfl, by kernel_rfl, by kernel_rfl, by kernel_rfl⟩
theorem oo_g (i : Nat) (h : i < 9) : (oo i).guard = none := by
  have : (List.range 9).all (fun i => (oo i).guard.isNone) = true := by kernel_rfl
  have := List.all_eq_true.1 this i (by simpa using h)
  simpa using this
def done (l : List Nat) : Array Bool := l.foldl (fun a i => a.setIfInBounds i true) (Array.replicate 9 false)
abbrev nilS : AV := .v (.slice none 0 0)
abbrev nilP : AV := .v (.pointer none)
theorem zs_w (n : Nat) : zerosA Try.prog 35 n = some (List.replicate n nilS) := by
  have h : zcA Try.prog 35 = some [nilS] ∧ szA Try.prog 35 = some 1 := ⟨by kernel_rfl, by kernel_rfl⟩
  unfold zerosA
  rw [h.1]
  simp only [Option.bind_some, h.2]
  rw [if_pos (show some 1 = some [nilS].length from rfl)]
  congr 1
  induction n with
  | zero => rfl
  | succ n ih => rw [List.replicate_succ, List.flatten_cons, ih]; rfl
theorem mk_w (bx : Bx) {n : Nat} (hn : n ≤ 2048) : makeSliceA Try.prog bx 55 (.v (.int .i64 n)) (.v (.int .i64 n)) = some (.bsl bx.length 0 n 1, bx ++ [List.replicate n nilS]) := by
  have h : isSl Try.prog 55 = true ∧ elA Try.prog 55 = some 35 ∧ szA Try.prog 35 = some 1 ∧ byA Try.prog 35 = some 24 := ⟨by kernel_rfl, by kernel_rfl, by kernel_rfl, by kernel_rfl⟩
  unfold makeSliceA
  simp only [h.1]
  rw [if_pos ⟨trivial, trivial, by omega⟩]
  simp only [h.2.1, h.2.2.1, h.2.2.2, Option.bind_some, Int.toNat_natCast, zs_w]
  rw [if_pos ⟨by omega, by omega, by omega⟩]
  rfl
def E0 : FnA := fun _ _ _ => none
theorem hE0 (f : FuncId) (args : List AV) (bx : Bx) (r : AV) (bx' : Bx) (h : E0 f args bx = some (r, bx')) : Sound Try.prog f args bx r bx' := by simp [E0] at h
theorem bd_y (n q L M : Nat) : buildA Try.prog 57 [(0, .bp q 0), (1, .bsl L 0 n 64), (2, .bsl M 0 n 1)] = some (.agg [.bp q 0, .bsl L 0 n 64, .bsl M 0 n 1, .v (.int .i64 0)]) := by kernel_rfl
abbrev z1 (n : Nat) : List AV := u8l (List.replicate (n * 64) 0)
abbrev z2 (n : Nat) : List AV := List.replicate n nilS
abbrev yB (q L n : Nat) : List AV := [.bp q 0, .bsl L 0 n 64, .bsl (L + 1) 0 n 1, .v (.int .i64 0)]
/-- what comes behind the two lists -/
theorem tail_ok {G : Gh} {w : World} {β : Beta} {bx : Bx} {n q : Nat} {env : Env} {a : Act} {Q : Exit → Act → World → Prop}
    (h15 : get env 15 = .bp q 0) (h17 : get env 17 = .bsl bx.length 0 n 64) (h19 : get env 19 = .bsl (bx.length + 1) 0 n 1)
    (hM : MR G w β (bx ++ [z1 n, z2 n])) (hR : ER [] G w β 22 env a)
    (hQ : ∀ a' w' β' env', Ext G allq w β w' β' → MR G w' β' (bx ++ [z1 n, z2 n, yB q bx.length n]) → ER [] G w' β' 22 env' a' → get env' 4 = .bp (bx.length + 2) 0 → get env' 5 = .v (.int .i64 0) → Q .normal a' w') :
    wpAny Try.prog .any O5 Q 4 (done [0, 1, 3, 2, 4]) a w := by
  obtain ⟨p5, p6, p7, p8⟩ := oo_op2
  obtain ⟨_, _, _, _, _, d5, d6, d7, d8⟩ := oo_dst
  refine any_one (i := 5) (by kernel_rfl) ?_
  refine any_op (n0 := 0) hE0 (md := md0) (o_get 5 (by omega)) (oo_g 5 (by omega)) (by rw [p5]; rfl) (r := .agg [.bp q 0, .bsl bx.length 0 n 64, .bsl (bx.length + 1) 0 n 1, .v (.int .i64 0)]) (env' := env) (bx' := bx ++ [z1 n, z2 n]) (by
    rw [p5]
    have : evOp Try.prog md0 E0 0 env (bx ++ [z1 n, z2 n]) (.build 57 #[(0, .tmp 15), (1, .tmp 17), (2, .tmp 19)]) = (buildA Try.prog 57 [(0, get env 15), (1, get env 17), (2, get env 19)]).map fun r => (r, env, bx ++ [z1 n, z2 n]) := rfl
    rw [this, h15, h17, h19, bd_y]
    rfl) (by rw [d5]; rfl) hM hR ?_
  intro a1 w1 β1 e1 m1 r1
  refine any_one (i := 6) (by kernel_rfl) ?_
  refine any_op (n0 := 0) hE0 (md := md0) (o_get 6 (by omega)) (oo_g 6 (by omega)) (by rw [p6]; rfl) (r := .bp (bx.length + 2) 0) (env' := _) (bx' := bx ++ [z1 n, z2 n, yB q bx.length n]) (by
    rw [p6]
    have : ∀ x, x = AV.agg (yB q bx.length n) → evOp Try.prog md0 E0 0 ((20, x) :: env) (bx ++ [z1 n, z2 n]) (.box 57 (.tmp 20)) = some (.bp (bx ++ [z1 n, z2 n]).length 0, (20, x) :: env, bx ++ [z1 n, z2 n] ++ [yB q bx.length n]) := by
      rintro x rfl
      rfl
    rw [this _ rfl, List.append_assoc, List.length_append]
    rfl) (by rw [d6]; rfl) m1 r1 ?_
  intro a2 w2 β2 e2 m2 r2
  refine any_one (i := 7) (by kernel_rfl) ?_
  refine any_op (n0 := 0) hE0 (md := md0) (o_get 7 (by omega)) (oo_g 7 (by omega)) (by rw [p7]; rfl) (by rw [p7]; rfl) (by rw [d7]; rfl) m2 r2 ?_
  intro a3 w3 β3 e3 m3 r3
  refine any_one (i := 8) (by kernel_rfl) ?_
  refine any_op (n0 := 0) hE0 (md := md0) (o_get 8 (by omega)) (oo_g 8 (by omega)) (by rw [p8]; rfl) (by rw [p8]; rfl) (by rw [d8]; rfl) m3 r3 ?_
  intro a4 w4 β4 e4 m4 r4
  refine wpAny_done (by kernel_rfl) ?_ 0
  exact hQ _ _ _ _ (((e1.trans e2).trans e3).trans e4) m4 r4 rfl rfl
theorem yl {ops : Array Oper} {o : Oper} {x : Operand} {a : Act} (hop : o.op = .move x) (hg : o.guard = none) : Yields Try.prog ops o (a.eval x) a := by
  refine .inl ⟨by simp [Region.wanted, hg], fun w => ?_⟩
  obtain ⟨dst, op, ty, pos, aft, gd⟩ := o
  simp only at hop
  subst hop
  rfl
/-- the region that makes two lists in any order -/
theorem reg5 {G : Gh} {w : World} {β : Beta} {bx : Bx} {n q : Nat} (hn : n ≤ 2048) {env : Env} {a : Act} {Q : Exit → Act → World → Prop} (hM : MR G w β bx) (hR : ER [] G w β 22 env a) (h0 : get env 0 = .v (.int .i64 n)) (h1 : get env 1 = .bp q 0)
    (hP : ∀ c (a : Act) d v w, Q (.panic c) (a.put (some d) v) w → Q (.panic c) a w)
    (hQ : ∀ a' w' β' env', Ext G (fun b => decide (b < bx.length)) w β w' β' → MR G w' β' (bx ++ [z1 n, z2 n, yB q bx.length n]) → ER [] G w' β' 22 env' a' → get env' 4 = .bp (bx.length + 2) 0 → get env' 5 = .v (.int .i64 0) → Q .normal a' w') :
    c_nwR5.wp Try.prog Q a w := by
  obtain ⟨p0, p1, p2, p3, p4⟩ := oo_op
  obtain ⟨d0, d1, d2, d3, d4, _⟩ := oo_dst
  rw [c_nwR5E]
  refine wp_region_any (by kernel_rfl) ?_
  rw [show (opsC c_nwR5).size = 9 by kernel_rfl]
  obtain ⟨m1, x1⟩ := MR.congr (w' := { w with drawn := w.drawn + 1 }) hM rfl ⟨rfl, rfl, rfl⟩
  obtain ⟨m2, x2⟩ := MR.absent [z1 n, z2 n] m1
  have x3 := x1.trans x2
  have r0 : ER [] G { w with drawn := w.drawn + 1 } (β ++ List.replicate [z1 n, z2 n].length .ab) 22 env a := ⟨hR.sz, hR.df, fun t => x3.vr (hR.vr t)⟩
  generalize { w with drawn := w.drawn + 1 } = u at *
  have hβl : β.length = bx.length := hM.len
  generalize hβ0 : β ++ List.replicate [z1 n, z2 n].length .ab = β0 at *
  have ab0 : β0[bx.length]? = some .ab := by rw [← hβ0, List.getElem?_append_right (by omega)]; simp [hβl]
  have ab1 : β0[bx.length + 1]? = some .ab := by rw [← hβ0, List.getElem?_append_right (by omega)]; simp [hβl]
  -- the moves
  refine wpAny_take (i := 0) (o_get 0 (by omega)) (by kernel_rfl) (by kernel_rfl) (by kernel_rfl) (by rw [d0]; exact fun c a w => hP c a _ _ w) (yl p0 (oo_g 0 (by omega))) ?_
  rw [d0]
  refine wpAny_take (i := 1) (o_get 1 (by omega)) (by kernel_rfl) (by kernel_rfl) (by kernel_rfl) (by rw [d1]; exact fun c a w => hP c a _ _ w) (yl p1 (oo_g 1 (by omega))) ?_
  rw [d1]
  refine wpAny_take (i := 3) (o_get 3 (by omega)) (by kernel_rfl) (by kernel_rfl) (by kernel_rfl) (by rw [d3]; exact fun c a w => hP c a _ _ w) (yl p3 (oo_g 3 (by omega))) ?_
  rw [d3]
  have r1 := r0.put (d := some 15) (x := .bp q 0) (v := a.eval (.tmp 1)) rfl (by have := r0.opnd (.tmp 1); rw [show opnd env (.tmp 1) = get env 1 from rfl, h1] at this; exact this)
  generalize a.put (some 15) (a.eval (.tmp 1)) = a1 at *
  have r2 := r1.put (d := some 16) (x := .v (.int .i64 n)) (v := a1.eval (.tmp 0)) rfl (by have := r1.opnd (.tmp 0); rw [show opnd ((15, AV.bp q 0) :: env) (.tmp 0) = get env 0 from rfl, h0] at this; exact this)
  generalize a1.put (some 16) (a1.eval (.tmp 0)) = a2 at *
  have r3 := r2.put (d := some 18) (x := .v (.int .i64 n)) (v := a2.eval (.tmp 0)) rfl (by have := r2.opnd (.tmp 0); rw [show opnd ((16, AV.v (.int .i64 n)) :: (15, AV.bp q 0) :: env) (.tmp 0) = get env 0 from rfl, h0] at this; exact this)
  generalize a2.put (some 18) (a2.eval (.tmp 0)) = a3 at *
  clear r0 r1 r2
  have k1 := Pr0.mk_n bx hn
  have k2 : makeSliceA Try.prog (bx ++ [z1 n]) 55 (.v (.int .i64 n)) (.v (.int .i64 n)) = some (.bsl (bx.length + 1) 0 n 1, bx ++ [z1 n] ++ [z2 n]) := by
    have := mk_w (bx ++ [z1 n]) hn
    rw [this, List.length_append]
    rfl
  have B1 : (bx ++ [z1 n, z2 n])[bx.length]? = some (z1 n) := by simp
  have B2 : (bx ++ [z1 n, z2 n])[(bx ++ [z1 n]).length]? = some (z2 n) := by simp
  have l1 : (bx ++ [z1 n]).length = bx.length + 1 := by simp
  refine wpAny_all (rs := [2, 4]) (by kernel_rfl) (by simp) fun j hj => ?_
  have hj' : j = 2 ∨ j = 4 := by simpa using hj
  have wk : ∀ {b : Nat} {w w' : World} {β β' : Beta}, bx.length ≤ b → Ext G (· != b) w β w' β' → Ext G (fun b => decide (b < bx.length)) w β w' β' := by
    intro b w w' β β' hb h
    refine h.weaken fun c hc => ?_
    simp at hc ⊢
    omega
  rcases hj' with rfl | rfl
  · refine mk_any (z := z1 n) (o_get 2 (by omega)) p2 (oo_g 2 (by omega)) d2 k1 m2 ab0 B1 r3 rfl rfl ?_
    intro v u1 β1 hb1 m3 e1 r4
    refine any_one (i := 4) (by kernel_rfl) ?_
    refine mk_any (z := z2 n) (o_get 4 (by omega)) p4 (oo_g 4 (by omega)) d4 k2 m3 (by rw [l1, hb1 _ (by omega)]; exact ab1) B2 r4 rfl rfl ?_
    intro v u2 β2 hb2 m4 e2 r5
    refine tail_ok rfl rfl rfl m4 r5 ?_
    intro a' w' β' env' e3 m5 r6 g4 g5
    exact hQ _ _ _ _ ((((x3.weaken fun _ _ => rfl).trans (wk (Nat.le_refl _) e1)).trans (wk (by omega) e2)).trans (e3.weaken fun _ _ => rfl)) m5 r6 g4 g5
  · refine mk_any (z := z2 n) (o_get 4 (by omega)) p4 (oo_g 4 (by omega)) d4 k2 m2 (by rw [l1]; exact ab1) B2 r3 rfl rfl ?_
    intro v u1 β1 hb1 m3 e1 r4
    refine any_one (i := 2) (by kernel_rfl) ?_
    refine mk_any (z := z1 n) (o_get 2 (by omega)) p2 (oo_g 2 (by omega)) d2 k1 m3 (by rw [hb1 _ (by omega)]; exact ab0) B1 r4 rfl rfl ?_
    intro v u2 β2 hb2 m4 e2 r5
    change wpAny Try.prog .any O5 Q 4 (done [0, 1, 3, 2, 4]) _ _
    refine tail_ok (bx := bx) (n := n) (q := q) rfl rfl rfl m4 r5 ?_
    intro a' w' β' env' e3 m5 r6 g4 g5
    exact hQ _ _ _ _ ((((x3.weaken fun _ _ => rfl).trans (wk (by omega) e1)).trans (wk (Nat.le_refl _) e2)).trans (e3.weaken fun _ _ => rfl)) m5 r6 g4 g5
/-- what the parts ahead of it do -/
theorem cond_ev (n0 : Nat) (bx : Bx) (n : Int) (q : Nat) : Ends (F_nwP1 E0 1000 n0 (.v (.int .i64 n)) (.bp q 0) nilP (.v (.int .i64 0)) bx) fun ex s' => s'.bx = bx ∧ if 1 ≤ n ∧ n ≤ 2048 then ex = .normal ∧ get s'.env 0 = .v (.int .i64 n) ∧ get s'.env 1 = .bp q 0 ∧ get s'.env 4 = nilP ∧ get s'.env 5 = .v (.int .i64 0)
    else ex = .ret ∧ get s'.env 4 = nilP ∧ get s'.env 5 = .v (.int .i64 2) := by
  unfold F_nwP1
  by_cases h : n < 1
  · have g1 : decide (n < 1) = true := decide_eq_true h
    have stq := (g1)
    repeat first
      | ((with_reducible apply ends_bind); case h => first | (simp only [stp, stq]; first | done | rfl) | rfl)
      | ((with_reducible apply ends_t); case h => first | rfl | (simp only [stp, stq]; done))
      | ((with_reducible apply ends_f); case h => first | rfl | (simp only [stp, stq]; done))
    exact ends_some ⟨rfl, by rw [if_neg (by omega)]; exact ⟨rfl, rfl, rfl⟩⟩
  · have g1 : decide (n < 1) = false := decide_eq_false h
    by_cases h2 : 2048 < n
    · have g2 : decide (2048 < n) = true := decide_eq_true h2
      have stq := (And.intro (g1) (g2))
      repeat first
        | ((with_reducible apply ends_bind); case h => first | (simp only [stp, stq]; first | done | rfl) | rfl)
        | ((with_reducible apply ends_t); case h => first | rfl | (simp only [stp, stq]; done))
        | ((with_reducible apply ends_f); case h => first | rfl | (simp only [stp, stq]; done))
      exact ends_some ⟨rfl, by rw [if_neg (by omega)]; exact ⟨rfl, rfl, rfl⟩⟩
    · have g2 : decide (2048 < n) = false := decide_eq_false h2
      have stq := (And.intro (g1) (g2))
      repeat first
        | ((with_reducible apply ends_bind); case h => first | (simp only [stp, stq]; first | done | rfl) | rfl)
        | ((with_reducible apply ends_t); case h => first | rfl | (simp only [stp, stq]; done))
        | ((with_reducible apply ends_f); case h => first | rfl | (simp only [stp, stq]; done))
      exact ends_some ⟨rfl, by rw [if_pos (by omega)]; exact ⟨rfl, rfl, rfl, rfl, rfl⟩⟩
theorem nil_ev (n0 : Nat) (bx : Bx) (n : AV) (q : Nat) : Ends (F_nwP2 E0 1000 n0 n (.bp q 0) nilP (.v (.int .i64 0)) bx) fun ex s' => s'.bx = bx ∧ ex = .normal ∧ get s'.env 0 = n ∧ get s'.env 1 = .bp q 0 := by
  unfold F_nwP2
  have pn : binA Try.prog .eql 49 (.bp q 0) nilP = some (.v (.bool false)) := by kernel_rfl
  have stq := (pn)
  repeat first
    | ((with_reducible apply ends_bind); case h => first | (simp only [stp, stq]; first | done | rfl) | rfl)
    | ((with_reducible apply ends_t); case h => first | rfl | (simp only [stp, stq]; done))
    | ((with_reducible apply ends_f); case h => first | rfl | (simp only [stp, stq]; done))
  exact ends_some ⟨rfl, rfl, rfl, rfl⟩
theorem new_snd (bx : Bx) (n : Int) (q : Nat) : Sound Try.prog 21 [.v (.int .i64 n), .bp q 0] bx (if 1 ≤ n ∧ n ≤ 2048 then .tup [.bp (bx.length + 2) 0, .v (.int .i64 0)] else .tup [nilP, .v (.int .i64 2)])
    (if 1 ≤ n ∧ n ≤ 2048 then bx ++ [z1 n.toNat, z2 n.toNat, yB q bx.length n.toNat] else bx) := by
  refine ⟨fun vs w => ?_, fun G w β vs hz hM hsz hv => ?_⟩
  · unfold callFunc
    simp only [Sem.run_bind, run_program, Result.andThen_ok, Try.func21]
    rw [if_neg (by decide +kernel), if_neg (by decide +kernel)]
    simp
  refine calls_of_wp Try.func21 c_nwAll ?_
  have r0 : ER [] G w β 22 [(0, .v (.int .i64 n)), (1, .bp q 0)] { tmps := vs ++ Array.replicate (22 - vs.size) undef, defers := [] } := ER.begin [.v (.int .i64 n), .bp q 0] vs hsz (by show 2 ≤ 22; omega) hv
  refine wp_seq ?_
  refine wp_piece (n0 := bx.length) (s := ⟨[(0, .v (.int .i64 n)), (1, .bp q 0)], bx⟩) hE0 d_nwP0 (Nat.le_refl _) (fun ex s' => ex = .normal ∧ s'.bx = bx ∧ s'.env = [(5, (.v (.int .i64 0))), (4, nilP), (0, .v (.int .i64 n)), (1, .bp q 0)])
    (F_nwP0_eq E0 1000 bx.length (.v (.int .i64 n)) (.bp q 0) bx) (ends_some ⟨rfl, rfl, rfl⟩) hM r0 ?_
  rintro ex ⟨env1, bx1⟩ ⟨rfl, hb1, he⟩ x1 w1 β1 e1 m1 r1
  simp only at hb1 he m1 r1
  subst hb1 he
  have r1' := r1.pick [0, 1, 4, 5]
  simp only [List.map_cons, List.map_nil, get] at r1'
  refine wp_seq ?_
  refine wp_piece (n0 := bx1.length) (s := ⟨[(0, .v (.int .i64 n)), (1, .bp q 0), (4, nilP), (5, .v (.int .i64 0))], bx1⟩) hE0 d_nwP1 (Nat.le_refl _) _ (F_nwP1_eq E0 1000 bx1.length (.v (.int .i64 n)) (.bp q 0) nilP (.v (.int .i64 0)) bx1) (cond_ev _ _ n q) m1 r1' ?_
  rintro ex ⟨env2, bx2⟩ ⟨hb2, hcase⟩ x2 w2 β2 e2 m2 r2
  simp only at hb2 m2 r2 hcase
  subst hb2
  by_cases hn : 1 ≤ n ∧ n ≤ 2048
  · rw [if_pos hn] at hcase ⊢
    rw [if_pos hn]
    obtain ⟨rfl, h0, h1, h4, h5⟩ := hcase
    have r2' := r2.pick [0, 1, 4, 5]
    simp only [List.map_cons, List.map_nil, h0, h1, h4, h5] at r2'
    refine wp_seq ?_
    refine wp_piece (n0 := bx2.length) (s := ⟨[(0, .v (.int .i64 n)), (1, .bp q 0), (4, nilP), (5, .v (.int .i64 0))], bx2⟩) hE0 d_nwP2 (Nat.le_refl _) _ (F_nwP2_eq E0 1000 bx2.length (.v (.int .i64 n)) (.bp q 0) nilP (.v (.int .i64 0)) bx2) (nil_ev _ _ _ q) m2 r2' ?_
    rintro ex ⟨env3, bx3⟩ ⟨hb3, rfl, h0, h1⟩ x3 w3 β3 e3 m3 r3
    simp only at hb3 m3 r3 h0 h1
    subst hb3
    obtain ⟨k, rfl⟩ : ∃ k : Nat, n = k := ⟨n.toNat, by omega⟩
    refine wp_seq ?_
    refine reg5 (n := k) (q := q) (by omega) m3 r3 h0 h1 (fun c a d v w h => h) ?_
    intro a' w4 β4 env4 e4 m4 r4 g4 g5
    refine wp_ret ?_
    obtain ⟨v, k1, k2⟩ := results_ok (P := Try.prog) (fn := Try.f21) m4 r4 (r := [.bp (bx3.length + 2) 0, .v (.int .i64 0)]) (by
      show resL Try.prog env4 (bx3 ++ [z1 k, z2 k, yB q bx3.length k]) [.tmp 4, .tmp 5] = _
      simp only [resL, g4, g5]
      rfl)
    refine ⟨r4.df, v, k1, v, β4, rfl, ((e1.trans e2).trans e3).trans e4, m4, k2⟩
  · rw [if_neg hn] at hcase ⊢
    rw [if_neg hn]
    obtain ⟨rfl, h4, h5⟩ := hcase
    obtain ⟨v, k1, k2⟩ := results_ok (P := Try.prog) (fn := Try.f21) m2 r2 (r := [nilP, .v (.int .i64 2)]) (by
      show resL Try.prog env2 bx2 [.tmp 4, .tmp 5] = _
      simp only [resL, h4, h5]
      rfl)
    exact ⟨r2.df, v, k1, v, β2, rfl, e1.trans e2, m2, k2⟩
end Go.Sy.Nw
namespace Go.Sy
open Go.Proofs
/-- disk's functions, and the document's New -/
noncomputable def extE : FnA := fun f args bx => match extD f args bx with
  | some r => some r
  | none => if f = 21 then (match args with
    | [.v (.int .i64 n), .bp q 0] => if 1 ≤ n ∧ n ≤ 2048 then some (.tup [.bp (bx.length + 2) 0, .v (.int .i64 0)], bx ++ [Nw.z1 n.toNat, Nw.z2 n.toNat, Nw.yB q bx.length n.toNat]) else some (.tup [.v (.pointer none), .v (.int .i64 2)], bx)
    | _ => none) else none
theorem extE_ok (f : FuncId) (args : List AV) (bx : Bx) (r : AV) (bx' : Bx) (h : extE f args bx = some (r, bx')) : Sound Try.prog f args bx r bx' := by
  unfold extE at h
  split at h
  · rename_i r0 h0
    simp only [Option.some.injEq] at h
    subst h
    exact extD_ok _ _ _ _ _ h0
  · split at h
    · rename_i hf
      subst hf
      split at h
      · rename_i n q _
        have := Nw.new_snd bx n q
        split at h
        · rename_i hn
          simp only [Option.some.injEq, Prod.mk.injEq] at h
          obtain ⟨rfl, rfl⟩ := h
          rw [if_pos hn, if_pos hn] at this
          exact this
        · rename_i hn
          simp only [Option.some.injEq, Prod.mk.injEq] at h
          obtain ⟨rfl, rfl⟩ := h
          rw [if_neg hn, if_neg hn] at this
          exact this
      · simp at h
    · simp at h
end Go.Sy
