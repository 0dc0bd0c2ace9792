/-
  What the functions under this seat's laws read as, in the reader's words; no conditions.
-/
import Derived.Test.YtjbncdpelkpofaaSyStep
import Derived.Test.YtjbncdpelkpofaaProg
import Derived.KernelRfl
import Derived.Test.YtjbncdpelkpofaaPfUse
namespace Go.Sy
open Go.Proofs
def kpT : FuncId → Option (List Nat)
  | 3 => some [0, 1, 4, 5, 6, 8, 14, 21, 31]
  | 5 => some [0, 2, 3, 5]
  | 6 => some [0, 1, 2, 3, 4]
  | 7 => some [0]
  | 8 => some [0, 1, 4, 10]
  | 10 => some [0, 2, 4]
  | 11 => some [0, 2]
  | 12 => some [0]
  | 13 => some [0, 1, 4, 6]
  | 14 => some [0, 1, 4, 6]
  | 15 => some [0, 3]
  | 16 => some [0]
  | 17 => some [0, 2, 13, 21]
  | _ => none
def md_l03_PowerEnds : FuncId → Md
  | 7 => .objK
  | 8 => .objT
  | 9 => .objT
  | 10 => .objT
  | 11 => .objT
  | 15 => .objT
  | _ => .frozen
def md_l03_PowerPlays : FuncId → Md
  | 7 => .objK
  | 8 => .objT
  | 9 => .objT
  | 10 => .objT
  | 11 => .objT
  | 15 => .objT
  | 12 => .objK
  | 14 => .objT
  | 17 => .objT
  | 16 => .objT
  | _ => .frozen
def md_l03_PowerVoid : FuncId → Md
  | 7 => .objK
  | 8 => .objT
  | 9 => .objT
  | 10 => .objT
  | 11 => .objT
  | 15 => .objT
  | _ => .frozen
def md_l03_works : FuncId → Md
  | 7 => .objK
  | 8 => .objT
  | 9 => .objT
  | 10 => .objT
  | 11 => .objT
  | 15 => .objT
  | _ => .frozen
def mdT : FuncId → FuncId → Md
  | 3 => md_l03_PowerEnds
  | 4 => md_l03_PowerPlays
  | 5 => md_l03_PowerVoid
  | 6 => md_l03_works
  | _ => md0
noncomputable def cx0 : Cx := { P := Try.prog, md := mdT, kp := kpT }
noncomputable def ext0 : FnA := extC
theorem ext0_ok (f : FuncId) (args : List AV) (bx : Bx) (r : AV) (bx' : Bx) (h : ext0 f args bx = some (r, bx')) : Sound cx0.P f args bx r bx' := extC_ok f args bx r bx' h
/-- scupper/scupperlaw03.PowerEnds -/
def kp_l03_PowerEnds : Option (List Nat) := some [0, 1, 4, 5, 6, 8, 14, 21, 31]
noncomputable def c_l03_PowerEnds : Code := Try.f3.body.getD .skip
noncomputable def L_l03_PowerEnds_0 (E : FnA) (_n _n0 : Nat) (s : S) : Option (Ex × S) :=
  (convA Try.prog s.bx 5 3 (get s.env 0)).bind fun r17 =>
  (convA Try.prog r17.2 5 3 (get s.env 1)).bind fun r18 =>
  (pv r18.2 (binA Try.prog .add 3 r17.1 r18.1)).bind fun r19 =>
  (pv r19.2 (binA Try.prog .lss 3 (get s.env 6) r19.1)).bind fun r20 =>
  condA r20.1 ((callA E md_l03_PowerEnds r20.2 9 [(get (prune kp_l03_PowerEnds s.env) 5)]).bind fun r21 =>
  (pv r21.2 (binA Try.prog .eql 25 r21.1 (.v (Go.Value.int Go.IntKind.i64 0)))).bind fun r22 =>
  (convA Try.prog r22.2 5 3 (get (prune kp_l03_PowerEnds s.env) 0)).bind fun r23 =>
  (pv r23.2 (binA Try.prog .lss 3 (get (prune kp_l03_PowerEnds s.env) 6) r23.1)).bind fun r24 =>
  (pv r24.2 (binA Try.prog .neq 4 r22.1 r24.1)).bind fun r25 =>
  condA r25.1 (some (.ret, ⟨((4, (.v (Go.Value.bool false))) :: (31, r25.1) :: (21, r20.1) :: (prune kp_l03_PowerEnds (prune kp_l03_PowerEnds (prune kp_l03_PowerEnds s.env)))), r25.2⟩)) ((pv r25.2 (binA Try.prog .add 3 (get (prune kp_l03_PowerEnds (prune kp_l03_PowerEnds s.env)) 6) (.v (Go.Value.int Go.IntKind.i64 1)))).bind fun r26 =>
  some (.normal, ⟨((6, r26.1) :: (31, r25.1) :: (21, r20.1) :: (prune kp_l03_PowerEnds (prune kp_l03_PowerEnds (prune kp_l03_PowerEnds s.env)))), r26.2⟩))) (some (.exit 0, ⟨((21, r20.1) :: (prune kp_l03_PowerEnds s.env)), r20.2⟩))
noncomputable def B_l03_PowerEnds_0 (E : FnA) (_n _n0 : Nat) (x6 x14 x5 x8 x4 x0 x1 : AV) (y : Bx) : Option (Ex × S) :=
  (convA Try.prog y 5 3 x0).bind fun r7 =>
  (convA Try.prog r7.2 5 3 x1).bind fun r8 =>
  (pv r8.2 (binA Try.prog .add 3 r7.1 r8.1)).bind fun r9 =>
  (pv r9.2 (binA Try.prog .lss 3 x6 r9.1)).bind fun r10 =>
  condA r10.1 ((callA E md_l03_PowerEnds r10.2 9 [x5]).bind fun r11 =>
  (pv r11.2 (binA Try.prog .eql 25 r11.1 (.v (Go.Value.int Go.IntKind.i64 0)))).bind fun r12 =>
  (convA Try.prog r12.2 5 3 x0).bind fun r13 =>
  (pv r13.2 (binA Try.prog .lss 3 x6 r13.1)).bind fun r14 =>
  (pv r14.2 (binA Try.prog .neq 4 r12.1 r14.1)).bind fun r15 =>
  condA r15.1 (some (.ret, ⟨[(4, (.v (Go.Value.bool false))), (31, r15.1), (21, r10.1), (6, x6), (14, x14), (5, x5), (8, x8), (4, x4), (0, x0), (1, x1)], r15.2⟩)) ((pv r15.2 (binA Try.prog .add 3 x6 (.v (Go.Value.int Go.IntKind.i64 1)))).bind fun r16 =>
  some (.normal, ⟨[(6, r16.1), (31, r15.1), (21, r10.1), (6, x6), (14, x14), (5, x5), (8, x8), (4, x4), (0, x0), (1, x1)], r16.2⟩))) (some (.exit 0, ⟨[(21, r10.1), (6, x6), (14, x14), (5, x5), (8, x8), (4, x4), (0, x0), (1, x1)], r10.2⟩))
theorem L_l03_PowerEnds_0_lit {E : FnA} {n n0 : Nat} {x6 x14 x5 x8 x4 x0 x1 : AV} {y : Bx} {Q : Ex → S → Prop} (h : Ends (B_l03_PowerEnds_0 E n n0 x6 x14 x5 x8 x4 x0 x1 y) Q) : Ends (L_l03_PowerEnds_0 E n n0 ⟨[(6, x6), (14, x14), (5, x5), (8, x8), (4, x4), (0, x0), (1, x1)], y⟩) Q := by
  rw [show L_l03_PowerEnds_0 E n n0 ⟨[(6, x6), (14, x14), (5, x5), (8, x8), (4, x4), (0, x0), (1, x1)], y⟩ = B_l03_PowerEnds_0 E n n0 x6 x14 x5 x8 x4 x0 x1 y by kernel_rfl]
  exact h
noncomputable def K_l03_PowerEnds_0 (E : FnA) (_n _n0 : Nat) (t : S) : Option (Ex × S) :=
  (callA E md_l03_PowerEnds t.bx 10 [(get t.env 5)]).bind fun r36 =>
  (convA Try.prog r36.2 5 3 (get t.env 0)).bind fun r37 =>
  (pv r37.2 (binA Try.prog .eql 3 r36.1 r37.1)).bind fun r38 =>
  (gsel true r38.2 (some ((get t.env 5), r38.2)) r38.1).bind fun r39 =>
  (gsel true r39.2 (callA E md_l03_PowerEnds r39.2 11 [r39.1]) r38.1).bind fun r40 =>
  (gsel true r40.2 (some ((get t.env 1), r40.2)) r38.1).bind fun r41 =>
  (gsel true r41.2 (pv r41.2 (binA Try.prog .gtr 5 r41.1 (.v (Go.Value.int Go.IntKind.u8 0)))) r38.1).bind fun r42 =>
  (gsel true r42.2 (pv r42.2 (binA Try.prog .eql 4 r40.1 r42.1)) r38.1).bind fun r43 =>
  (pv r43.2 (pickA r38.1 r43.1 (.v (Go.Value.bool false)))).bind fun r44 =>
  some (.ret, ⟨((4, r44.1) :: (prune kp_l03_PowerEnds t.env)), r44.2⟩)
noncomputable def X_l03_PowerEnds_0 (E : FnA) (_n _n0 : Nat) (i : Nat) (t : S) : Option (Ex × S) :=
  if i = 0 then (callA E md_l03_PowerEnds t.bx 10 [(get t.env 5)]).bind fun r27 =>
  (convA Try.prog r27.2 5 3 (get t.env 0)).bind fun r28 =>
  (pv r28.2 (binA Try.prog .eql 3 r27.1 r28.1)).bind fun r29 =>
  (gsel true r29.2 (some ((get t.env 5), r29.2)) r29.1).bind fun r30 =>
  (gsel true r30.2 (callA E md_l03_PowerEnds r30.2 11 [r30.1]) r29.1).bind fun r31 =>
  (gsel true r31.2 (some ((get t.env 1), r31.2)) r29.1).bind fun r32 =>
  (gsel true r32.2 (pv r32.2 (binA Try.prog .gtr 5 r32.1 (.v (Go.Value.int Go.IntKind.u8 0)))) r29.1).bind fun r33 =>
  (gsel true r33.2 (pv r33.2 (binA Try.prog .eql 4 r31.1 r33.1)) r29.1).bind fun r34 =>
  (pv r34.2 (pickA r29.1 r34.1 (.v (Go.Value.bool false)))).bind fun r35 =>
  some (.ret, ⟨((4, r35.1) :: (prune kp_l03_PowerEnds t.env)), r35.2⟩) else some (.exit i, ⟨t.env, t.bx⟩)
noncomputable def X_l03_PowerEnds_0_0 (E : FnA) (_n _n0 : Nat) (x21 x6 x14 x5 x8 x4 x0 x1 : AV) (y : Bx) : Option (Ex × S) :=
  (callA E md_l03_PowerEnds y 10 [x5]).bind fun r45 =>
  (convA Try.prog r45.2 5 3 x0).bind fun r46 =>
  (pv r46.2 (binA Try.prog .eql 3 r45.1 r46.1)).bind fun r47 =>
  (gsel true r47.2 (some (x5, r47.2)) r47.1).bind fun r48 =>
  (gsel true r48.2 (callA E md_l03_PowerEnds r48.2 11 [r48.1]) r47.1).bind fun r49 =>
  (gsel true r49.2 (some (x1, r49.2)) r47.1).bind fun r50 =>
  (gsel true r50.2 (pv r50.2 (binA Try.prog .gtr 5 r50.1 (.v (Go.Value.int Go.IntKind.u8 0)))) r47.1).bind fun r51 =>
  (gsel true r51.2 (pv r51.2 (binA Try.prog .eql 4 r49.1 r51.1)) r47.1).bind fun r52 =>
  (pv r52.2 (pickA r47.1 r52.1 (.v (Go.Value.bool false)))).bind fun r53 =>
  some (.ret, ⟨[(4, r53.1), (21, x21), (6, x6), (14, x14), (5, x5), (8, x8), (4, x4), (0, x0), (1, x1)], r53.2⟩)
theorem X_l03_PowerEnds_0_0_lit {E : FnA} {n n0 : Nat} {x21 x6 x14 x5 x8 x4 x0 x1 : AV} {y : Bx} {Q : Ex → S → Prop} (h : Ends (X_l03_PowerEnds_0_0 E n n0 x21 x6 x14 x5 x8 x4 x0 x1 y) Q) : Ends (X_l03_PowerEnds_0 E n n0 0 ⟨[(21, x21), (6, x6), (14, x14), (5, x5), (8, x8), (4, x4), (0, x0), (1, x1)], y⟩) Q := by
  rw [show X_l03_PowerEnds_0 E n n0 0 ⟨[(21, x21), (6, x6), (14, x14), (5, x5), (8, x8), (4, x4), (0, x0), (1, x1)], y⟩ = X_l03_PowerEnds_0_0 E n n0 x21 x6 x14 x5 x8 x4 x0 x1 y by kernel_rfl]
  exact h
noncomputable def F_l03_PowerEnds (E : FnA) (n n0 : Nat) (a0 a1 : AV) (bx : Bx) : Option (Ex × S) :=
  (callA E md_l03_PowerEnds bx 6 []).bind fun r1 =>
  (pv r1.2 (unA .not r1.1)).bind fun r2 =>
  condA r2.1 (some (.ret, ⟨[(4, (.v (Go.Value.bool false))), (8, r2.1), (4, (.v (Go.Value.bool false))), (0, a0), (1, a1)], r2.2⟩)) ((callA E md_l03_PowerEnds r2.2 7 []).bind fun r3 =>
  (convA Try.prog r3.2 5 3 a0).bind fun r4 =>
  (callA E md_l03_PowerEnds r4.2 8 [r3.1, r4.1]).bind fun r5 =>
  (pv r5.2 (binA Try.prog .neq 25 r5.1 (.v (Go.Value.int Go.IntKind.i64 0)))).bind fun r6 =>
  condA r6.1 (some (.ret, ⟨[(4, (.v (Go.Value.bool false))), (14, r6.1), (5, r3.1), (8, r2.1), (4, (.v (Go.Value.bool false))), (0, a0), (1, a1)], r6.2⟩)) (exitA (iter ⟨[(6, (.v (Go.Value.int Go.IntKind.i64 0))), (14, r6.1), (5, r3.1), (8, r2.1), (4, (.v (Go.Value.bool false))), (0, a0), (1, a1)], r6.2⟩ (L_l03_PowerEnds_0 E n n0) n ⟨[(6, (.v (Go.Value.int Go.IntKind.i64 0))), (14, r6.1), (5, r3.1), (8, r2.1), (4, (.v (Go.Value.bool false))), (0, a0), (1, a1)], r6.2⟩) (K_l03_PowerEnds_0 E n n0) (X_l03_PowerEnds_0 E n n0)))
theorem c_l03_PowerEnds_eq : Try.f3.body = some c_l03_PowerEnds := by kernel_rfl
theorem d_l03_PowerEnds : drawsOk Try.prog md_l03_PowerEnds c_l03_PowerEnds = true := by kernel_rfl
theorem F_l03_PowerEnds_eq (E : FnA) (n n0 : Nat) (a0 a1 : AV) (bx : Bx) : evK Try.prog md_l03_PowerEnds E 44 kp_l03_PowerEnds n n0 c_l03_PowerEnds ⟨[(0, a0), (1, a1)], bx⟩ (fun s => some (.normal, s)) (fun i s => some (.exit i, s)) = F_l03_PowerEnds E n n0 a0 a1 bx := by kernel_rfl

theorem E_l03_PowerEnds (n : Nat) (a0 a1 : AV) (bx : Bx) : evFn cx0 ext0 (n + 1) 3 [a0, a1] bx = fin Try.prog [.tmp 4] (F_l03_PowerEnds (evFn cx0 ext0 n) n bx.length a0 a1 bx) := by
  rw [evFn_eq2 (cx := cx0) (c := c_l03_PowerEnds) rfl Try.func3 c_l03_PowerEnds_eq (of_decide_eq_true (by kernel_rfl)) d_l03_PowerEnds (of_decide_eq_true (by kernel_rfl))]
  exact congrArg (fin Try.prog [.tmp 4]) (F_l03_PowerEnds_eq (evFn cx0 ext0 n) n bx.length a0 a1 bx)

/-- scupper/scupperlaw03.PowerVoid -/
def kp_l03_PowerVoid : Option (List Nat) := some [0, 2, 3, 5]
noncomputable def c_l03_PowerVoid : Code := Try.f5.body.getD .skip
noncomputable def F_l03_PowerVoid (E : FnA) (_n _n0 : Nat) (a0 : AV) (bx : Bx) : Option (Ex × S) :=
  (callA E md_l03_PowerVoid bx 6 []).bind fun r1 =>
  (pv r1.2 (unA .not r1.1)).bind fun r2 =>
  condA r2.1 (some (.ret, ⟨[(2, (.v (Go.Value.bool false))), (5, r2.1), (2, (.v (Go.Value.bool false))), (0, a0)], r2.2⟩)) ((callA E md_l03_PowerVoid r2.2 15 [(.v (Go.Value.pointer none))]).bind fun r3 =>
  (callA E md_l03_PowerVoid r3.2 8 [(.v (Go.Value.pointer none)), a0]).bind fun r4 =>
  (pv r4.2 (binA Try.prog .eql 25 r4.1 (.v (Go.Value.int Go.IntKind.i64 2)))).bind fun r5 =>
  (gsel true r5.2 (some ((.v (Go.Value.pointer none)), r5.2)) r5.1).bind fun r6 =>
  (gsel true r6.2 (callA E md_l03_PowerVoid r6.2 9 [r6.1]) r5.1).bind fun r7 =>
  (gsel true r7.2 (pv r7.2 (binA Try.prog .eql 25 r7.1 (.v (Go.Value.int Go.IntKind.i64 0)))) r5.1).bind fun r8 =>
  (pv r8.2 (pickA r5.1 r8.1 (.v (Go.Value.bool false)))).bind fun r9 =>
  (gsel true r9.2 (some ((.v (Go.Value.pointer none)), r9.2)) r9.1).bind fun r10 =>
  (gsel true r10.2 (callA E md_l03_PowerVoid r10.2 11 [r10.1]) r9.1).bind fun r11 =>
  (gsel true r11.2 (pv r11.2 (unA .not r11.1)) r9.1).bind fun r12 =>
  (pv r12.2 (pickA r9.1 r12.1 (.v (Go.Value.bool false)))).bind fun r13 =>
  (gsel true r13.2 (some ((.v (Go.Value.pointer none)), r13.2)) r13.1).bind fun r14 =>
  (gsel true r14.2 (callA E md_l03_PowerVoid r14.2 10 [r14.1]) r13.1).bind fun r15 =>
  (gsel true r15.2 (pv r15.2 (binA Try.prog .eql 3 r15.1 (.v (Go.Value.int Go.IntKind.i64 0)))) r13.1).bind fun r16 =>
  (pv r16.2 (pickA r13.1 r16.1 (.v (Go.Value.bool false)))).bind fun r17 =>
  some (.ret, ⟨[(2, r17.1), (3, (.v (Go.Value.pointer none))), (5, r2.1), (2, (.v (Go.Value.bool false))), (0, a0)], r17.2⟩))
theorem c_l03_PowerVoid_eq : Try.f5.body = some c_l03_PowerVoid := by kernel_rfl
theorem d_l03_PowerVoid : drawsOk Try.prog md_l03_PowerVoid c_l03_PowerVoid = true := by kernel_rfl
theorem F_l03_PowerVoid_eq (E : FnA) (n n0 : Nat) (a0 : AV) (bx : Bx) : evK Try.prog md_l03_PowerVoid E 27 kp_l03_PowerVoid n n0 c_l03_PowerVoid ⟨[(0, a0)], bx⟩ (fun s => some (.normal, s)) (fun i s => some (.exit i, s)) = F_l03_PowerVoid E n n0 a0 bx := by kernel_rfl

theorem E_l03_PowerVoid (n : Nat) (a0 : AV) (bx : Bx) : evFn cx0 ext0 (n + 1) 5 [a0] bx = fin Try.prog [.tmp 2] (F_l03_PowerVoid (evFn cx0 ext0 n) n bx.length a0 bx) := by
  rw [evFn_eq2 (cx := cx0) (c := c_l03_PowerVoid) rfl Try.func5 c_l03_PowerVoid_eq (of_decide_eq_true (by kernel_rfl)) d_l03_PowerVoid (of_decide_eq_true (by kernel_rfl))]
  exact congrArg (fin Try.prog [.tmp 2]) (F_l03_PowerVoid_eq (evFn cx0 ext0 n) n bx.length a0 bx)

/-- scupper/scupperlaw03.works -/
def kp_l03_works : Option (List Nat) := some [0, 1, 2, 3, 4]
noncomputable def c_l03_works : Code := Try.f6.body.getD .skip
noncomputable def F_l03_works (E : FnA) (_n _n0 : Nat) (bx : Bx) : Option (Ex × S) :=
  (callA E md_l03_works bx 7 []).bind fun r1 =>
  (callA E md_l03_works r1.2 8 [r1.1, (.v (Go.Value.int Go.IntKind.i64 1))]).bind fun r2 =>
  (callA E md_l03_works r2.2 9 [r1.1]).bind fun r3 =>
  (callA E md_l03_works r3.2 9 [r1.1]).bind fun r4 =>
  (pv r4.2 (binA Try.prog .eql 25 r2.1 (.v (Go.Value.int Go.IntKind.i64 0)))).bind fun r5 =>
  (gsel true r5.2 (some (r3.1, r5.2)) r5.1).bind fun r6 =>
  (gsel true r6.2 (pv r6.2 (binA Try.prog .eql 25 r6.1 (.v (Go.Value.int Go.IntKind.i64 0)))) r5.1).bind fun r7 =>
  (pv r7.2 (pickA r5.1 r7.1 (.v (Go.Value.bool false)))).bind fun r8 =>
  (gsel true r8.2 (some (r4.1, r8.2)) r8.1).bind fun r9 =>
  (gsel true r9.2 (pv r9.2 (binA Try.prog .eql 25 r9.1 (.v (Go.Value.int Go.IntKind.i64 20)))) r8.1).bind fun r10 =>
  (pv r10.2 (pickA r8.1 r10.1 (.v (Go.Value.bool false)))).bind fun r11 =>
  (gsel true r11.2 (some (r1.1, r11.2)) r11.1).bind fun r12 =>
  (gsel true r12.2 (callA E md_l03_works r12.2 11 [r12.1]) r11.1).bind fun r13 =>
  (pv r13.2 (pickA r11.1 r13.1 (.v (Go.Value.bool false)))).bind fun r14 =>
  (gsel true r14.2 (some (r1.1, r14.2)) r14.1).bind fun r15 =>
  (gsel true r15.2 (callA E md_l03_works r15.2 10 [r15.1]) r14.1).bind fun r16 =>
  (gsel true r16.2 (pv r16.2 (binA Try.prog .eql 3 r16.1 (.v (Go.Value.int Go.IntKind.i64 1)))) r14.1).bind fun r17 =>
  (pv r17.2 (pickA r14.1 r17.1 (.v (Go.Value.bool false)))).bind fun r18 =>
  some (.ret, ⟨[(0, r18.1), (4, r4.1), (3, r3.1), (2, r2.1), (1, r1.1), (0, (.v (Go.Value.bool false)))], r18.2⟩)
theorem c_l03_works_eq : Try.f6.body = some c_l03_works := by kernel_rfl
theorem d_l03_works : drawsOk Try.prog md_l03_works c_l03_works = true := by kernel_rfl
theorem F_l03_works_eq (E : FnA) (n n0 : Nat) (bx : Bx) : evK Try.prog md_l03_works E 31 kp_l03_works n n0 c_l03_works ⟨[], bx⟩ (fun s => some (.normal, s)) (fun i s => some (.exit i, s)) = F_l03_works E n n0  bx := by kernel_rfl

theorem E_l03_works (n : Nat) (bx : Bx) : evFn cx0 ext0 (n + 1) 6 [] bx = fin Try.prog [.tmp 0] (F_l03_works (evFn cx0 ext0 n) n bx.length  bx) := by
  rw [evFn_eq2 (cx := cx0) (c := c_l03_works) rfl Try.func6 c_l03_works_eq (of_decide_eq_true (by kernel_rfl)) d_l03_works (of_decide_eq_true (by kernel_rfl))]
  exact congrArg (fin Try.prog [.tmp 0]) (F_l03_works_eq (evFn cx0 ext0 n) n bx.length  bx)

/-- scupper/power.New -/
def kp_power_New : Option (List Nat) := some [0]
noncomputable def c_power_New : Code := Try.f7.body.getD .skip
noncomputable def F_power_New (_E : FnA) (_n _n0 : Nat) (bx : Bx) : Option (Ex × S) :=
  (pv bx (buildA Try.prog 41 [(0, (.v (Go.Value.int Go.IntKind.i64 (-1))))])).bind fun r1 =>
  (boxA r1.2 r1.1).bind fun r2 =>
  some (.ret, ⟨[(0, r2.1), (0, (.v (Go.Value.pointer none)))], r2.2⟩)
theorem c_power_New_eq : Try.f7.body = some c_power_New := by kernel_rfl
theorem d_power_New : drawsOk Try.prog md0 c_power_New = true := by kernel_rfl
theorem F_power_New_eq (E : FnA) (n n0 : Nat) (bx : Bx) : evK Try.prog md0 E 3 kp_power_New n n0 c_power_New ⟨[], bx⟩ (fun s => some (.normal, s)) (fun i s => some (.exit i, s)) = F_power_New E n n0  bx := by kernel_rfl

theorem E_power_New (n : Nat) (bx : Bx) : evFn cx0 ext0 (n + 1) 7 [] bx = fin Try.prog [.tmp 0] (F_power_New (evFn cx0 ext0 n) n bx.length  bx) := by
  rw [evFn_eq2 (cx := cx0) (c := c_power_New) rfl Try.func7 c_power_New_eq (of_decide_eq_true (by kernel_rfl)) d_power_New (of_decide_eq_true (by kernel_rfl))]
  exact congrArg (fin Try.prog [.tmp 0]) (F_power_New_eq (evFn cx0 ext0 n) n bx.length  bx)

/-- (*scupper/power.Supply).Limit -/
def kp_power_Supply_Limit : Option (List Nat) := some [0, 1, 4, 10]
noncomputable def c_power_Supply_Limit : Code := Try.f8.body.getD .skip
noncomputable def F_power_Supply_Limit (_E : FnA) (_n _n0 : Nat) (a0 a1 : AV) (bx : Bx) : Option (Ex × S) :=
  (pv bx (binA Try.prog .eql 23 a0 (.v (Go.Value.pointer none)))).bind fun r1 =>
  (gsel false r1.2 (some (a1, r1.2)) r1.1).bind fun r2 =>
  (gsel false r2.2 (pv r2.2 (binA Try.prog .lss 3 r2.1 (.v (Go.Value.int Go.IntKind.i64 0)))) r1.1).bind fun r3 =>
  (pv r3.2 (pickA r1.1 (.v (Go.Value.bool true)) r3.1)).bind fun r4 =>
  condA r4.1 (some (.ret, ⟨[(4, (.v (Go.Value.int Go.IntKind.i64 2))), (10, r4.1), (4, (.v (Go.Value.int Go.IntKind.i64 0))), (0, a0), (1, a1)], r4.2⟩)) ((pv r4.2 (nilA a0)).bind fun r5 =>
  (pv r5.2 (fieldAddrA Try.prog 41 r5.1 0)).bind fun r6 =>
  (stA Try.prog 3 r6.2 r6.1 a1).bind fun r7 =>
  some (.ret, ⟨[(4, (.v (Go.Value.int Go.IntKind.i64 0))), (10, r4.1), (4, (.v (Go.Value.int Go.IntKind.i64 0))), (0, a0), (1, a1)], r7.2⟩))
theorem c_power_Supply_Limit_eq : Try.f8.body = some c_power_Supply_Limit := by kernel_rfl
theorem d_power_Supply_Limit : drawsOk Try.prog md0 c_power_Supply_Limit = true := by kernel_rfl
theorem F_power_Supply_Limit_eq (E : FnA) (n n0 : Nat) (a0 a1 : AV) (bx : Bx) : evK Try.prog md0 E 15 kp_power_Supply_Limit n n0 c_power_Supply_Limit ⟨[(0, a0), (1, a1)], bx⟩ (fun s => some (.normal, s)) (fun i s => some (.exit i, s)) = F_power_Supply_Limit E n n0 a0 a1 bx := by kernel_rfl

theorem E_power_Supply_Limit (n : Nat) (a0 a1 : AV) (bx : Bx) : evFn cx0 ext0 (n + 1) 8 [a0, a1] bx = fin Try.prog [.tmp 4] (F_power_Supply_Limit (evFn cx0 ext0 n) n bx.length a0 a1 bx) := by
  rw [evFn_eq2 (cx := cx0) (c := c_power_Supply_Limit) rfl Try.func8 c_power_Supply_Limit_eq (of_decide_eq_true (by kernel_rfl)) d_power_Supply_Limit (of_decide_eq_true (by kernel_rfl))]
  exact congrArg (fin Try.prog [.tmp 4]) (F_power_Supply_Limit_eq (evFn cx0 ext0 n) n bx.length a0 a1 bx)

/-- (*scupper/power.Supply).Used -/
def kp_power_Supply_Used : Option (List Nat) := some [0, 2, 4]
noncomputable def c_power_Supply_Used : Code := Try.f10.body.getD .skip
noncomputable def F_power_Supply_Used (_E : FnA) (_n _n0 : Nat) (a0 : AV) (bx : Bx) : Option (Ex × S) :=
  (pv bx (binA Try.prog .eql 23 a0 (.v (Go.Value.pointer none)))).bind fun r1 =>
  condA r1.1 (some (.ret, ⟨[(2, (.v (Go.Value.int Go.IntKind.i64 0))), (4, r1.1), (2, (.v (Go.Value.int Go.IntKind.i64 0))), (0, a0)], r1.2⟩)) ((pv r1.2 (nilA a0)).bind fun r2 =>
  (pv r2.2 (fieldAddrA Try.prog 41 r2.1 1)).bind fun r3 =>
  (pv r3.2 (loadA Try.prog 3 r3.2 r3.1)).bind fun r4 =>
  some (.ret, ⟨[(2, r4.1), (4, r1.1), (2, (.v (Go.Value.int Go.IntKind.i64 0))), (0, a0)], r4.2⟩))
theorem c_power_Supply_Used_eq : Try.f10.body = some c_power_Supply_Used := by kernel_rfl
theorem d_power_Supply_Used : drawsOk Try.prog md0 c_power_Supply_Used = true := by kernel_rfl
theorem F_power_Supply_Used_eq (E : FnA) (n n0 : Nat) (a0 : AV) (bx : Bx) : evK Try.prog md0 E 9 kp_power_Supply_Used n n0 c_power_Supply_Used ⟨[(0, a0)], bx⟩ (fun s => some (.normal, s)) (fun i s => some (.exit i, s)) = F_power_Supply_Used E n n0 a0 bx := by kernel_rfl

theorem E_power_Supply_Used (n : Nat) (a0 : AV) (bx : Bx) : evFn cx0 ext0 (n + 1) 10 [a0] bx = fin Try.prog [.tmp 2] (F_power_Supply_Used (evFn cx0 ext0 n) n bx.length a0 bx) := by
  rw [evFn_eq2 (cx := cx0) (c := c_power_Supply_Used) rfl Try.func10 c_power_Supply_Used_eq (of_decide_eq_true (by kernel_rfl)) d_power_Supply_Used (of_decide_eq_true (by kernel_rfl))]
  exact congrArg (fin Try.prog [.tmp 2]) (F_power_Supply_Used_eq (evFn cx0 ext0 n) n bx.length a0 bx)

/-- (*scupper/power.Supply).Gone -/
def kp_power_Supply_Gone : Option (List Nat) := some [0, 2]
noncomputable def c_power_Supply_Gone : Code := Try.f11.body.getD .skip
noncomputable def F_power_Supply_Gone (_E : FnA) (_n _n0 : Nat) (a0 : AV) (bx : Bx) : Option (Ex × S) :=
  (pv bx (binA Try.prog .neq 23 a0 (.v (Go.Value.pointer none)))).bind fun r1 =>
  (gsel true r1.2 (some (a0, r1.2)) r1.1).bind fun r2 =>
  (gsel true r2.2 (pv r2.2 (nilA r2.1)) r1.1).bind fun r3 =>
  (gsel true r3.2 (pv r3.2 (fieldAddrA Try.prog 41 r3.1 2)) r1.1).bind fun r4 =>
  (gsel true r4.2 (pv r4.2 (loadA Try.prog 4 r4.2 r4.1)) r1.1).bind fun r5 =>
  (pv r5.2 (pickA r1.1 r5.1 (.v (Go.Value.bool false)))).bind fun r6 =>
  some (.ret, ⟨[(2, r6.1), (2, (.v (Go.Value.bool false))), (0, a0)], r6.2⟩)
theorem c_power_Supply_Gone_eq : Try.f11.body = some c_power_Supply_Gone := by kernel_rfl
theorem d_power_Supply_Gone : drawsOk Try.prog md0 c_power_Supply_Gone = true := by kernel_rfl
theorem F_power_Supply_Gone_eq (E : FnA) (n n0 : Nat) (a0 : AV) (bx : Bx) : evK Try.prog md0 E 11 kp_power_Supply_Gone n n0 c_power_Supply_Gone ⟨[(0, a0)], bx⟩ (fun s => some (.normal, s)) (fun i s => some (.exit i, s)) = F_power_Supply_Gone E n n0 a0 bx := by kernel_rfl

theorem E_power_Supply_Gone (n : Nat) (a0 : AV) (bx : Bx) : evFn cx0 ext0 (n + 1) 11 [a0] bx = fin Try.prog [.tmp 2] (F_power_Supply_Gone (evFn cx0 ext0 n) n bx.length a0 bx) := by
  rw [evFn_eq2 (cx := cx0) (c := c_power_Supply_Gone) rfl Try.func11 c_power_Supply_Gone_eq (of_decide_eq_true (by kernel_rfl)) d_power_Supply_Gone (of_decide_eq_true (by kernel_rfl))]
  exact congrArg (fin Try.prog [.tmp 2]) (F_power_Supply_Gone_eq (evFn cx0 ext0 n) n bx.length a0 bx)

/-- scupper/scupperref03.New -/
def kp_r03_New : Option (List Nat) := some [0]
noncomputable def c_r03_New : Code := Try.f12.body.getD .skip
noncomputable def F_r03_New (_E : FnA) (_n _n0 : Nat) (bx : Bx) : Option (Ex × S) :=
  (pv bx (buildA Try.prog 37 [(0, (.v (Go.Value.int Go.IntKind.i64 (-1))))])).bind fun r1 =>
  (boxA r1.2 r1.1).bind fun r2 =>
  some (.ret, ⟨[(0, r2.1), (0, (.v (Go.Value.pointer none)))], r2.2⟩)
theorem c_r03_New_eq : Try.f12.body = some c_r03_New := by kernel_rfl
theorem d_r03_New : drawsOk Try.prog md0 c_r03_New = true := by kernel_rfl
theorem F_r03_New_eq (E : FnA) (n n0 : Nat) (bx : Bx) : evK Try.prog md0 E 3 kp_r03_New n n0 c_r03_New ⟨[], bx⟩ (fun s => some (.normal, s)) (fun i s => some (.exit i, s)) = F_r03_New E n n0  bx := by kernel_rfl

theorem E_r03_New (n : Nat) (bx : Bx) : evFn cx0 ext0 (n + 1) 12 [] bx = fin Try.prog [.tmp 0] (F_r03_New (evFn cx0 ext0 n) n bx.length  bx) := by
  rw [evFn_eq2 (cx := cx0) (c := c_r03_New) rfl Try.func12 c_r03_New_eq (of_decide_eq_true (by kernel_rfl)) d_r03_New (of_decide_eq_true (by kernel_rfl))]
  exact congrArg (fin Try.prog [.tmp 0]) (F_r03_New_eq (evFn cx0 ext0 n) n bx.length  bx)

/-- scupper/scupperbase.Among -/
def kp_base_Among : Option (List Nat) := some [0, 1, 4, 6]
noncomputable def c_base_Among : Code := Try.f13.body.getD .skip
noncomputable def F_base_Among (_E : FnA) (_n _n0 : Nat) (a0 a1 : AV) (bx : Bx) : Option (Ex × S) :=
  (pv bx (binA Try.prog .lss 3 a1 (.v (Go.Value.int Go.IntKind.i64 1)))).bind fun r1 =>
  condA r1.1 (some (.ret, ⟨[(4, (.v (Go.Value.int Go.IntKind.i64 0))), (6, r1.1), (4, (.v (Go.Value.int Go.IntKind.i64 0))), (0, a0), (1, a1)], r1.2⟩)) ((convA Try.prog r1.2 3 42 a0).bind fun r2 =>
  (convA Try.prog r2.2 3 42 a1).bind fun r3 =>
  (pv r3.2 (binA Try.prog .rem 42 r2.1 r3.1)).bind fun r4 =>
  (convA Try.prog r4.2 42 3 r4.1).bind fun r5 =>
  some (.ret, ⟨[(4, r5.1), (6, r1.1), (4, (.v (Go.Value.int Go.IntKind.i64 0))), (0, a0), (1, a1)], r5.2⟩))
theorem c_base_Among_eq : Try.f13.body = some c_base_Among := by kernel_rfl
theorem d_base_Among : drawsOk Try.prog md0 c_base_Among = true := by kernel_rfl
theorem F_base_Among_eq (E : FnA) (n n0 : Nat) (a0 a1 : AV) (bx : Bx) : evK Try.prog md0 E 13 kp_base_Among n n0 c_base_Among ⟨[(0, a0), (1, a1)], bx⟩ (fun s => some (.normal, s)) (fun i s => some (.exit i, s)) = F_base_Among E n n0 a0 a1 bx := by kernel_rfl

theorem E_base_Among (n : Nat) (a0 a1 : AV) (bx : Bx) : evFn cx0 ext0 (n + 1) 13 [a0, a1] bx = fin Try.prog [.tmp 4] (F_base_Among (evFn cx0 ext0 n) n bx.length a0 a1 bx) := by
  rw [evFn_eq2 (cx := cx0) (c := c_base_Among) rfl Try.func13 c_base_Among_eq (of_decide_eq_true (by kernel_rfl)) d_base_Among (of_decide_eq_true (by kernel_rfl))]
  exact congrArg (fin Try.prog [.tmp 4]) (F_base_Among_eq (evFn cx0 ext0 n) n bx.length a0 a1 bx)

/-- (*scupper/scupperref03.Supply).Limit -/
def kp_r03_Supply_Limit : Option (List Nat) := some [0, 1, 4, 6]
noncomputable def c_r03_Supply_Limit : Code := Try.f14.body.getD .skip
noncomputable def F_r03_Supply_Limit (_E : FnA) (_n _n0 : Nat) (a0 a1 : AV) (bx : Bx) : Option (Ex × S) :=
  (pv bx (binA Try.prog .lss 3 a1 (.v (Go.Value.int Go.IntKind.i64 0)))).bind fun r1 =>
  condA r1.1 (some (.ret, ⟨[(4, (.v (Go.Value.int Go.IntKind.i64 2))), (6, r1.1), (4, (.v (Go.Value.int Go.IntKind.i64 0))), (0, a0), (1, a1)], r1.2⟩)) ((pv r1.2 (nilA a0)).bind fun r2 =>
  (pv r2.2 (fieldAddrA Try.prog 37 r2.1 0)).bind fun r3 =>
  (stA Try.prog 3 r3.2 r3.1 a1).bind fun r4 =>
  some (.ret, ⟨[(4, (.v (Go.Value.int Go.IntKind.i64 0))), (6, r1.1), (4, (.v (Go.Value.int Go.IntKind.i64 0))), (0, a0), (1, a1)], r4.2⟩))
theorem c_r03_Supply_Limit_eq : Try.f14.body = some c_r03_Supply_Limit := by kernel_rfl
theorem d_r03_Supply_Limit : drawsOk Try.prog md0 c_r03_Supply_Limit = true := by kernel_rfl
theorem F_r03_Supply_Limit_eq (E : FnA) (n n0 : Nat) (a0 a1 : AV) (bx : Bx) : evK Try.prog md0 E 11 kp_r03_Supply_Limit n n0 c_r03_Supply_Limit ⟨[(0, a0), (1, a1)], bx⟩ (fun s => some (.normal, s)) (fun i s => some (.exit i, s)) = F_r03_Supply_Limit E n n0 a0 a1 bx := by kernel_rfl

theorem E_r03_Supply_Limit (n : Nat) (a0 a1 : AV) (bx : Bx) : evFn cx0 ext0 (n + 1) 14 [a0, a1] bx = fin Try.prog [.tmp 4] (F_r03_Supply_Limit (evFn cx0 ext0 n) n bx.length a0 a1 bx) := by
  rw [evFn_eq2 (cx := cx0) (c := c_r03_Supply_Limit) rfl Try.func14 c_r03_Supply_Limit_eq (of_decide_eq_true (by kernel_rfl)) d_r03_Supply_Limit (of_decide_eq_true (by kernel_rfl))]
  exact congrArg (fin Try.prog [.tmp 4]) (F_r03_Supply_Limit_eq (evFn cx0 ext0 n) n bx.length a0 a1 bx)

/-- (*scupper/power.Supply).Restore -/
def kp_power_Supply_Restore : Option (List Nat) := some [0, 3]
noncomputable def c_power_Supply_Restore : Code := Try.f15.body.getD .skip
noncomputable def F_power_Supply_Restore (_E : FnA) (_n _n0 : Nat) (a0 : AV) (bx : Bx) : Option (Ex × S) :=
  (pv bx (binA Try.prog .neq 23 a0 (.v (Go.Value.pointer none)))).bind fun r1 =>
  condA r1.1 ((pv r1.2 (nilA a0)).bind fun r2 =>
  (pv r2.2 (fieldAddrA Try.prog 41 r2.1 2)).bind fun r3 =>
  (stA Try.prog 4 r3.2 r3.1 (.v (Go.Value.bool false))).bind fun r4 =>
  (pv r4.2 (nilA a0)).bind fun r5 =>
  (pv r5.2 (fieldAddrA Try.prog 41 r5.1 0)).bind fun r6 =>
  (stA Try.prog 3 r6.2 r6.1 (.v (Go.Value.int Go.IntKind.i64 (-1)))).bind fun r7 =>
  some (.normal, ⟨[(3, r1.1), (0, a0)], r7.2⟩)) (some (.normal, ⟨[(3, r1.1), (0, a0)], r1.2⟩))
theorem c_power_Supply_Restore_eq : Try.f15.body = some c_power_Supply_Restore := by kernel_rfl
theorem d_power_Supply_Restore : drawsOk Try.prog md0 c_power_Supply_Restore = true := by kernel_rfl
theorem F_power_Supply_Restore_eq (E : FnA) (n n0 : Nat) (a0 : AV) (bx : Bx) : evK Try.prog md0 E 10 kp_power_Supply_Restore n n0 c_power_Supply_Restore ⟨[(0, a0)], bx⟩ (fun s => some (.normal, s)) (fun i s => some (.exit i, s)) = F_power_Supply_Restore E n n0 a0 bx := by kernel_rfl

theorem E_power_Supply_Restore (n : Nat) (a0 : AV) (bx : Bx) : evFn cx0 ext0 (n + 1) 15 [a0] bx = fin Try.prog [] (F_power_Supply_Restore (evFn cx0 ext0 n) n bx.length a0 bx) := by
  rw [evFn_eq2 (cx := cx0) (c := c_power_Supply_Restore) rfl Try.func15 c_power_Supply_Restore_eq (of_decide_eq_true (by kernel_rfl)) d_power_Supply_Restore (of_decide_eq_true (by kernel_rfl))]
  exact congrArg (fin Try.prog []) (F_power_Supply_Restore_eq (evFn cx0 ext0 n) n bx.length a0 bx)

/-- (*scupper/scupperref03.Supply).Restore -/
def kp_r03_Supply_Restore : Option (List Nat) := some [0]
noncomputable def c_r03_Supply_Restore : Code := Try.f16.body.getD .skip
noncomputable def F_r03_Supply_Restore (_E : FnA) (_n _n0 : Nat) (a0 : AV) (bx : Bx) : Option (Ex × S) :=
  (pv bx (nilA a0)).bind fun r1 =>
  (pv r1.2 (fieldAddrA Try.prog 37 r1.1 2)).bind fun r2 =>
  (stA Try.prog 4 r2.2 r2.1 (.v (Go.Value.bool false))).bind fun r3 =>
  (pv r3.2 (nilA a0)).bind fun r4 =>
  (pv r4.2 (fieldAddrA Try.prog 37 r4.1 0)).bind fun r5 =>
  (stA Try.prog 3 r5.2 r5.1 (.v (Go.Value.int Go.IntKind.i64 (-1)))).bind fun r6 =>
  some (.normal, ⟨[(0, a0)], r6.2⟩)
theorem c_r03_Supply_Restore_eq : Try.f16.body = some c_r03_Supply_Restore := by kernel_rfl
theorem d_r03_Supply_Restore : drawsOk Try.prog md0 c_r03_Supply_Restore = true := by kernel_rfl
theorem F_r03_Supply_Restore_eq (E : FnA) (n n0 : Nat) (a0 : AV) (bx : Bx) : evK Try.prog md0 E 8 kp_r03_Supply_Restore n n0 c_r03_Supply_Restore ⟨[(0, a0)], bx⟩ (fun s => some (.normal, s)) (fun i s => some (.exit i, s)) = F_r03_Supply_Restore E n n0 a0 bx := by kernel_rfl

theorem E_r03_Supply_Restore (n : Nat) (a0 : AV) (bx : Bx) : evFn cx0 ext0 (n + 1) 16 [a0] bx = fin Try.prog [] (F_r03_Supply_Restore (evFn cx0 ext0 n) n bx.length a0 bx) := by
  rw [evFn_eq2 (cx := cx0) (c := c_r03_Supply_Restore) rfl Try.func16 c_r03_Supply_Restore_eq (of_decide_eq_true (by kernel_rfl)) d_r03_Supply_Restore (of_decide_eq_true (by kernel_rfl))]
  exact congrArg (fin Try.prog []) (F_r03_Supply_Restore_eq (evFn cx0 ext0 n) n bx.length a0 bx)

/-- (*scupper/scupperref03.Supply).Use -/
def kp_r03_Supply_Use : Option (List Nat) := some [0, 2, 13, 21]
noncomputable def c_r03_Supply_Use : Code := Try.f17.body.getD .skip
noncomputable def F_r03_Supply_Use (_E : FnA) (_n _n0 : Nat) (a0 : AV) (bx : Bx) : Option (Ex × S) :=
  (pv bx (nilA a0)).bind fun r1 =>
  (pv r1.2 (fieldAddrA Try.prog 37 r1.1 2)).bind fun r2 =>
  (pv r2.2 (loadA Try.prog 4 r2.2 r2.1)).bind fun r3 =>
  (gsel false r3.2 (some (a0, r3.2)) r3.1).bind fun r4 =>
  (gsel false r4.2 (pv r4.2 (nilA r4.1)) r3.1).bind fun r5 =>
  (gsel false r5.2 (pv r5.2 (fieldAddrA Try.prog 37 r5.1 0)) r3.1).bind fun r6 =>
  (gsel false r6.2 (pv r6.2 (loadA Try.prog 3 r6.2 r6.1)) r3.1).bind fun r7 =>
  (gsel false r7.2 (pv r7.2 (binA Try.prog .eql 3 r7.1 (.v (Go.Value.int Go.IntKind.i64 0)))) r3.1).bind fun r8 =>
  (pv r8.2 (pickA r3.1 (.v (Go.Value.bool true)) r8.1)).bind fun r9 =>
  condA r9.1 ((pv r9.2 (nilA a0)).bind fun r10 =>
  (pv r10.2 (fieldAddrA Try.prog 37 r10.1 2)).bind fun r11 =>
  (stA Try.prog 4 r11.2 r11.1 (.v (Go.Value.bool true))).bind fun r12 =>
  some (.ret, ⟨[(2, (.v (Go.Value.int Go.IntKind.i64 20))), (13, r9.1), (2, (.v (Go.Value.int Go.IntKind.i64 0))), (0, a0)], r12.2⟩)) ((pv r9.2 (nilA a0)).bind fun r13 =>
  (pv r13.2 (fieldAddrA Try.prog 37 r13.1 0)).bind fun r14 =>
  (pv r14.2 (loadA Try.prog 3 r14.2 r14.1)).bind fun r15 =>
  (pv r15.2 (binA Try.prog .gtr 3 r15.1 (.v (Go.Value.int Go.IntKind.i64 0)))).bind fun r16 =>
  condA r16.1 ((pv r16.2 (nilA a0)).bind fun r17 =>
  (pv r17.2 (fieldAddrA Try.prog 37 r17.1 0)).bind fun r18 =>
  (pv r18.2 (loadA Try.prog 3 r18.2 r18.1)).bind fun r19 =>
  (pv r19.2 (binA Try.prog .sub 3 r19.1 (.v (Go.Value.int Go.IntKind.i64 1)))).bind fun r20 =>
  (pv r20.2 (nilA a0)).bind fun r21 =>
  (pv r21.2 (fieldAddrA Try.prog 37 r21.1 0)).bind fun r22 =>
  (stA Try.prog 3 r22.2 r22.1 r20.1).bind fun r23 =>
  (pv r23.2 (nilA a0)).bind fun r24 =>
  (pv r24.2 (fieldAddrA Try.prog 37 r24.1 1)).bind fun r25 =>
  (pv r25.2 (loadA Try.prog 3 r25.2 r25.1)).bind fun r26 =>
  (pv r26.2 (binA Try.prog .add 3 r26.1 (.v (Go.Value.int Go.IntKind.i64 1)))).bind fun r27 =>
  (pv r27.2 (nilA a0)).bind fun r28 =>
  (pv r28.2 (fieldAddrA Try.prog 37 r28.1 1)).bind fun r29 =>
  (stA Try.prog 3 r29.2 r29.1 r27.1).bind fun r30 =>
  some (.ret, ⟨[(2, (.v (Go.Value.int Go.IntKind.i64 0))), (21, r16.1), (13, r9.1), (2, (.v (Go.Value.int Go.IntKind.i64 0))), (0, a0)], r30.2⟩)) ((pv r16.2 (nilA a0)).bind fun r31 =>
  (pv r31.2 (fieldAddrA Try.prog 37 r31.1 1)).bind fun r32 =>
  (pv r32.2 (loadA Try.prog 3 r32.2 r32.1)).bind fun r33 =>
  (pv r33.2 (binA Try.prog .add 3 r33.1 (.v (Go.Value.int Go.IntKind.i64 1)))).bind fun r34 =>
  (pv r34.2 (nilA a0)).bind fun r35 =>
  (pv r35.2 (fieldAddrA Try.prog 37 r35.1 1)).bind fun r36 =>
  (stA Try.prog 3 r36.2 r36.1 r34.1).bind fun r37 =>
  some (.ret, ⟨[(2, (.v (Go.Value.int Go.IntKind.i64 0))), (21, r16.1), (13, r9.1), (2, (.v (Go.Value.int Go.IntKind.i64 0))), (0, a0)], r37.2⟩)))
theorem c_r03_Supply_Use_eq : Try.f17.body = some c_r03_Supply_Use := by kernel_rfl
theorem d_r03_Supply_Use : drawsOk Try.prog md0 c_r03_Supply_Use = true := by kernel_rfl
theorem F_r03_Supply_Use_eq (E : FnA) (n n0 : Nat) (a0 : AV) (bx : Bx) : evK Try.prog md0 E 36 kp_r03_Supply_Use n n0 c_r03_Supply_Use ⟨[(0, a0)], bx⟩ (fun s => some (.normal, s)) (fun i s => some (.exit i, s)) = F_r03_Supply_Use E n n0 a0 bx := by kernel_rfl

theorem E_r03_Supply_Use (n : Nat) (a0 : AV) (bx : Bx) : evFn cx0 ext0 (n + 1) 17 [a0] bx = fin Try.prog [.tmp 2] (F_r03_Supply_Use (evFn cx0 ext0 n) n bx.length a0 bx) := by
  rw [evFn_eq2 (cx := cx0) (c := c_r03_Supply_Use) rfl Try.func17 c_r03_Supply_Use_eq (of_decide_eq_true (by kernel_rfl)) d_r03_Supply_Use (of_decide_eq_true (by kernel_rfl))]
  exact congrArg (fin Try.prog [.tmp 2]) (F_r03_Supply_Use_eq (evFn cx0 ext0 n) n bx.length a0 bx)

end Go.Sy
