/-
  What the functions under layer 11's laws read as, in the reader's words; no conditions.
-/
import Derived.Test.YtjmdohmfienfoaaSySimp
import Derived.Test.YtjmdohmfienfoaaProg
import Derived.KernelRfl
namespace Go.Sy
open Go.Proofs
def kpT : FuncId → Option (List Nat)
  | 3 => some [0, 2, 3]
  | 4 => some [0, 1, 2, 4, 6, 7, 8, 9, 10, 11, 12, 13, 14]
  | 5 => some [0, 1, 4, 5, 6, 7, 8, 9, 10, 12]
  | 7 => some [0, 2, 4]
  | 8 => some [0, 2, 4]
  | 9 => some [0, 1, 2, 3, 4]
  | 10 => some [0, 2, 3, 4, 12, 17]
  | 11 => some [0, 2, 3, 9, 12, 16]
  | 12 => some [0, 1, 2, 3, 4, 5, 6, 20, 24, 25, 29, 49]
  | 13 => some [0, 1, 2, 3, 4, 5, 8, 18]
  | 14 => some [0, 1, 4, 6]
  | 15 => some [0, 1, 2, 4, 5, 8]
  | 16 => some [0, 1, 2, 4, 5, 11]
  | 17 => some [0, 1, 2, 3, 6, 7, 8, 11]
  | 22 => some [0, 2]
  | 23 => some [0, 1, 4, 5, 6, 7]
  | 24 => some [0, 1, 4, 5, 6, 7]
  | 25 => some [0, 2]
  | 28 => some [0, 1, 2, 6, 7, 8, 9, 25, 26, 27, 28]
  | _ => none
noncomputable def cx0 : Cx := { P := Try.prog, md := fun _ => md0, kp := kpT }
def ext0 : FnA := fun _ _ _ => none
theorem ext0_ok (f : FuncId) (args : List AV) (bx : Bx) (r : AV) (bx' : Bx) (h : ext0 f args bx = some (r, bx')) : Sound cx0.P f args bx r bx' := by simp [ext0] at h
/-- scupper/scupperlaw11.PtrsBlocks -/
def kp3 : Option (List Nat) := some [0, 2, 3]
noncomputable def c3 : Code := Try.f3.body.getD .skip
noncomputable def F3 (E : FnA) (n n0 : Nat) (a0 : AV) (bx : Bx) : Option (Ex × S) :=
  (callA E md0 bx 7 [a0]).bind fun r1 =>
  (callA E md0 r1.2 8 [a0]).bind fun r2 =>
  (pv r2.2 (binA Try.prog .eql 3 r1.1 r2.1)).bind fun r3 =>
  (gsel true r3.2 (some (a0, r3.2)) r3.1).bind fun r4 =>
  (gsel true r4.2 (pv r4.2 (binA Try.prog .leq 3 r4.1 (.v (Go.Value.int Go.IntKind.i64 0)))) r3.1).bind fun r5 =>
  (gsel true r5.2 (some (r5.1, r5.2)) r3.1).bind fun r6 =>
  (gsel false r6.2 (some (a0, r6.2)) r6.1).bind fun r7 =>
  (gsel false r7.2 (pv r7.2 (binA Try.prog .gtr 3 r7.1 (.v (Go.Value.int Go.IntKind.i64 1099511627776)))) r6.1).bind fun r8 =>
  (gsel true r8.2 (pv r8.2 (pickA r6.1 (.v (Go.Value.bool true)) r8.1)) r3.1).bind fun r9 =>
  (gsel true r9.2 (some (r9.1, r9.2)) r3.1).bind fun r10 =>
  (gsel false r10.2 (some (r1.1, r10.2)) r10.1).bind fun r11 =>
  (gsel false r11.2 (pv r11.2 (binA Try.prog .mul 3 (.v (Go.Value.int Go.IntKind.i64 64)) r11.1)) r10.1).bind fun r12 =>
  (gsel false r12.2 (some (a0, r12.2)) r10.1).bind fun r13 =>
  (gsel false r13.2 (pv r13.2 (binA Try.prog .geq 3 r12.1 r13.1)) r10.1).bind fun r14 =>
  (gsel false r14.2 (some (r14.1, r14.2)) r10.1).bind fun r15 =>
  (gsel true r15.2 (some (r1.1, r15.2)) r15.1).bind fun r16 =>
  (gsel true r16.2 (pv r16.2 (binA Try.prog .sub 3 r16.1 (.v (Go.Value.int Go.IntKind.i64 1)))) r15.1).bind fun r17 =>
  (gsel true r17.2 (pv r17.2 (binA Try.prog .mul 3 (.v (Go.Value.int Go.IntKind.i64 64)) r17.1)) r15.1).bind fun r18 =>
  (gsel true r18.2 (some (a0, r18.2)) r15.1).bind fun r19 =>
  (gsel true r19.2 (pv r19.2 (binA Try.prog .lss 3 r18.1 r19.1)) r15.1).bind fun r20 =>
  (gsel false r20.2 (pv r20.2 (pickA r15.1 r20.1 (.v (Go.Value.bool false)))) r10.1).bind fun r21 =>
  (gsel true r21.2 (pv r21.2 (pickA r10.1 (.v (Go.Value.bool true)) r21.1)) r3.1).bind fun r22 =>
  (pv r22.2 (pickA r3.1 r22.1 (.v (Go.Value.bool false)))).bind fun r23 =>
  (gsel true r23.2 (callA E md0 r23.2 9 []) r23.1).bind fun r24 =>
  (pv r24.2 (pickA r23.1 r24.1 (.v (Go.Value.bool false)))).bind fun r25 =>
  some (.ret, ⟨[(2, r25.1), (3, r1.1), (2, (.v (Go.Value.bool false))), (0, a0)], r25.2⟩)
theorem c3_eq : Try.f3.body = some c3 := by kernel_rfl
theorem d3 : drawsOk Try.prog md0 c3 = true := by kernel_rfl
theorem F3_eq (E : FnA) (n n0 : Nat) (a0 : AV) (bx : Bx) : evK Try.prog md0 E 34 kp3 n n0 c3 ⟨[(0, a0)], bx⟩ (fun s => some (.normal, s)) (fun i s => some (.exit i, s)) = F3 E n n0 a0 bx := by kernel_rfl

theorem E3 (n : Nat) (a0 : AV) (bx : Bx) : evFn cx0 ext0 (n + 1) 3 [a0] bx = fin Try.prog [.tmp 2] (F3 (evFn cx0 ext0 n) n bx.length a0 bx) := by
  rw [evFn_eq2 (cx := cx0) (c := c3) rfl Try.func3 c3_eq (of_decide_eq_true (by kernel_rfl)) d3 (of_decide_eq_true (by kernel_rfl))]
  exact congrArg (fin Try.prog [.tmp 2]) (F3_eq (evFn cx0 ext0 n) n bx.length a0 bx)

/-- scupper/scupperlaw11.PtrsWays -/
def kp4 : Option (List Nat) := some [0, 1, 2, 4, 6, 7, 8, 9, 10, 11, 12, 13, 14]
noncomputable def c4 : Code := Try.f4.body.getD .skip
noncomputable def F4 (E : FnA) (n n0 : Nat) (a0 a1 a2 : AV) (bx : Bx) : Option (Ex × S) :=
  (boxA bx a1).bind fun r1 =>
  (callA E md0 r1.2 10 [a0]).bind fun r2 =>
  (pv r2.2 (tupA r2.1 0)).bind fun r3 =>
  (pv r3.2 (tupA r2.1 1)).bind fun r4 =>
  (allocA Try.prog r4.2 26).bind fun r5 =>
  (stA Try.prog 26 r5.2 r5.1 r3.1).bind fun r6 =>
  (callA E md0 r6.2 11 [a0]).bind fun r7 =>
  (pv r7.2 (tupA r7.1 0)).bind fun r8 =>
  (pv r8.2 (tupA r7.1 1)).bind fun r9 =>
  (allocA Try.prog r9.2 30).bind fun r10 =>
  (stA Try.prog 30 r10.2 r10.1 r8.1).bind fun r11 =>
  (pv r11.2 (loadA Try.prog 26 r11.2 r1.1)).bind fun r12 =>
  (callA E md0 r12.2 12 [r12.1]).bind fun r13 =>
  (pv r13.2 (tupA r13.1 0)).bind fun r14 =>
  (pv r14.2 (tupA r13.1 1)).bind fun r15 =>
  (pv r15.2 (fieldAddrA Try.prog 26 r1.1 0)).bind fun r16 =>
  (pv r16.2 (loadA Try.prog 3 r16.2 r16.1)).bind fun r17 =>
  (pv r17.2 (fieldAddrA Try.prog 26 r1.1 1)).bind fun r18 =>
  (pv r18.2 (loadA Try.prog 3 r18.2 r18.1)).bind fun r19 =>
  (pv r19.2 (fieldAddrA Try.prog 26 r1.1 2)).bind fun r20 =>
  (pv r20.2 (loadA Try.prog 3 r20.2 r20.1)).bind fun r21 =>
  (pv r21.2 (buildA Try.prog 30 [(0, r17.1), (1, r19.1), (2, r21.1)])).bind fun r22 =>
  (callA E md0 r22.2 13 [r22.1]).bind fun r23 =>
  (pv r23.2 (tupA r23.1 0)).bind fun r24 =>
  (pv r24.2 (tupA r23.1 1)).bind fun r25 =>
  (pv r25.2 (fieldAddrA Try.prog 26 r5.1 0)).bind fun r26 =>
  (pv r26.2 (loadA Try.prog 3 r26.2 r26.1)).bind fun r27 =>
  (pv r27.2 (fieldAddrA Try.prog 30 r10.1 0)).bind fun r28 =>
  (pv r28.2 (loadA Try.prog 3 r28.2 r28.1)).bind fun r29 =>
  (pv r29.2 (binA Try.prog .eql 3 r27.1 r29.1)).bind fun r30 =>
  (gsel true r30.2 (pv r30.2 (fieldAddrA Try.prog 26 r5.1 1)) r30.1).bind fun r31 =>
  (gsel true r31.2 (pv r31.2 (loadA Try.prog 3 r31.2 r31.1)) r30.1).bind fun r32 =>
  (gsel true r32.2 (pv r32.2 (fieldAddrA Try.prog 30 r10.1 1)) r30.1).bind fun r33 =>
  (gsel true r33.2 (pv r33.2 (loadA Try.prog 3 r33.2 r33.1)) r30.1).bind fun r34 =>
  (gsel true r34.2 (pv r34.2 (binA Try.prog .eql 3 r32.1 r34.1)) r30.1).bind fun r35 =>
  (pv r35.2 (pickA r30.1 r35.1 (.v (Go.Value.bool false)))).bind fun r36 =>
  (gsel true r36.2 (pv r36.2 (fieldAddrA Try.prog 26 r5.1 2)) r36.1).bind fun r37 =>
  (gsel true r37.2 (pv r37.2 (loadA Try.prog 3 r37.2 r37.1)) r36.1).bind fun r38 =>
  (gsel true r38.2 (pv r38.2 (fieldAddrA Try.prog 30 r10.1 2)) r36.1).bind fun r39 =>
  (gsel true r39.2 (pv r39.2 (loadA Try.prog 3 r39.2 r39.1)) r36.1).bind fun r40 =>
  (gsel true r40.2 (pv r40.2 (binA Try.prog .eql 3 r38.1 r40.1)) r36.1).bind fun r41 =>
  (pv r41.2 (pickA r36.1 r41.1 (.v (Go.Value.bool false)))).bind fun r42 =>
  (gsel true r42.2 (some (r4.1, r42.2)) r42.1).bind fun r43 =>
  (gsel true r43.2 (some (r9.1, r43.2)) r42.1).bind fun r44 =>
  (gsel true r44.2 (pv r44.2 (binA Try.prog .eql 27 r43.1 r44.1)) r42.1).bind fun r45 =>
  (pv r45.2 (pickA r42.1 r45.1 (.v (Go.Value.bool false)))).bind fun r46 =>
  (gsel true r46.2 (some (r14.1, r46.2)) r46.1).bind fun r47 =>
  (gsel true r47.2 (some (r24.1, r47.2)) r46.1).bind fun r48 =>
  (gsel true r48.2 (pv r48.2 (binA Try.prog .eql 3 r47.1 r48.1)) r46.1).bind fun r49 =>
  (pv r49.2 (pickA r46.1 r49.1 (.v (Go.Value.bool false)))).bind fun r50 =>
  (gsel true r50.2 (some (r15.1, r50.2)) r50.1).bind fun r51 =>
  (gsel true r51.2 (some (r25.1, r51.2)) r50.1).bind fun r52 =>
  (gsel true r52.2 (pv r52.2 (binA Try.prog .eql 27 r51.1 r52.1)) r50.1).bind fun r53 =>
  (pv r53.2 (pickA r50.1 r53.1 (.v (Go.Value.bool false)))).bind fun r54 =>
  (gsel true r54.2 (some (a2, r54.2)) r54.1).bind fun r55 =>
  (gsel true r55.2 (callA E md0 r55.2 7 [r55.1]) r54.1).bind fun r56 =>
  (gsel true r56.2 (some (a2, r56.2)) r54.1).bind fun r57 =>
  (gsel true r57.2 (callA E md0 r57.2 8 [r57.1]) r54.1).bind fun r58 =>
  (gsel true r58.2 (pv r58.2 (binA Try.prog .eql 3 r56.1 r58.1)) r54.1).bind fun r59 =>
  (pv r59.2 (pickA r54.1 r59.1 (.v (Go.Value.bool false)))).bind fun r60 =>
  (gsel true r60.2 (callA E md0 r60.2 9 []) r60.1).bind fun r61 =>
  (pv r61.2 (pickA r60.1 r61.1 (.v (Go.Value.bool false)))).bind fun r62 =>
  some (.ret, ⟨[(6, r62.1), (14, r25.1), (13, r24.1), (12, r15.1), (11, r14.1), (10, r9.1), (9, r10.1), (8, r4.1), (7, r5.1), (6, (.v (Go.Value.bool false))), (4, r1.1), (0, a0), (1, a1), (2, a2)], r62.2⟩)
theorem c4_eq : Try.f4.body = some c4 := by kernel_rfl
theorem d4 : drawsOk Try.prog md0 c4 = true := by kernel_rfl
theorem F4_eq (E : FnA) (n n0 : Nat) (a0 a1 a2 : AV) (bx : Bx) : evK Try.prog md0 E 85 kp4 n n0 c4 ⟨[(0, a0), (1, a1), (2, a2)], bx⟩ (fun s => some (.normal, s)) (fun i s => some (.exit i, s)) = F4 E n n0 a0 a1 a2 bx := by kernel_rfl

theorem E4 (n : Nat) (a0 a1 a2 : AV) (bx : Bx) : evFn cx0 ext0 (n + 1) 4 [a0, a1, a2] bx = fin Try.prog [.tmp 6] (F4 (evFn cx0 ext0 n) n bx.length a0 a1 a2 bx) := by
  rw [evFn_eq2 (cx := cx0) (c := c4) rfl Try.func4 c4_eq (of_decide_eq_true (by kernel_rfl)) d4 (of_decide_eq_true (by kernel_rfl))]
  exact congrArg (fin Try.prog [.tmp 6]) (F4_eq (evFn cx0 ext0 n) n bx.length a0 a1 a2 bx)

/-- scupper/scupperlaw11.PtrsBack -/
def kp5 : Option (List Nat) := some [0, 1, 4, 5, 6, 7, 8, 9, 10, 12]
noncomputable def c5 : Code := Try.f5.body.getD .skip
noncomputable def F5 (E : FnA) (n n0 : Nat) (a0 a1 : AV) (bx : Bx) : Option (Ex × S) :=
  (callA E md0 bx 9 []).bind fun r1 =>
  (pv r1.2 (unA .not r1.1)).bind fun r2 =>
  condA r2.1 (some (.ret, ⟨[(4, (.v (Go.Value.bool false))), (12, r2.1), (4, (.v (Go.Value.bool false))), (0, a0), (1, a1)], r2.2⟩)) ((callA E md0 r2.2 14 [a0, (.v (Go.Value.int Go.IntKind.i64 760))]).bind fun r3 =>
  (callA E md0 r3.2 14 [a1, (.v (Go.Value.int Go.IntKind.i64 760))]).bind fun r4 =>
  (callA E md0 r4.2 10 [r3.1]).bind fun r5 =>
  (pv r5.2 (tupA r5.1 0)).bind fun r6 =>
  (pv r6.2 (tupA r5.1 1)).bind fun r7 =>
  (allocA Try.prog r7.2 26).bind fun r8 =>
  (stA Try.prog 26 r8.2 r8.1 r6.1).bind fun r9 =>
  (callA E md0 r9.2 10 [r4.1]).bind fun r10 =>
  (pv r10.2 (tupA r10.1 0)).bind fun r11 =>
  (pv r11.2 (tupA r10.1 1)).bind fun r12 =>
  (allocA Try.prog r12.2 26).bind fun r13 =>
  (stA Try.prog 26 r13.2 r13.1 r11.1).bind fun r14 =>
  (pv r14.2 (loadA Try.prog 26 r14.2 r8.1)).bind fun r15 =>
  (callA E md0 r15.2 12 [r15.1]).bind fun r16 =>
  (pv r16.2 (tupA r16.1 0)).bind fun r17 =>
  (pv r17.2 (tupA r16.1 1)).bind fun r18 =>
  (pv r18.2 (binA Try.prog .eql 27 r7.1 (.v (Go.Value.int Go.IntKind.i64 0)))).bind fun r19 =>
  (gsel true r19.2 (some (r12.1, r19.2)) r19.1).bind fun r20 =>
  (gsel true r20.2 (pv r20.2 (binA Try.prog .eql 27 r20.1 (.v (Go.Value.int Go.IntKind.i64 0)))) r19.1).bind fun r21 =>
  (pv r21.2 (pickA r19.1 r21.1 (.v (Go.Value.bool false)))).bind fun r22 =>
  (gsel true r22.2 (some (r18.1, r22.2)) r22.1).bind fun r23 =>
  (gsel true r23.2 (pv r23.2 (binA Try.prog .eql 27 r23.1 (.v (Go.Value.int Go.IntKind.i64 0)))) r22.1).bind fun r24 =>
  (pv r24.2 (pickA r22.1 r24.1 (.v (Go.Value.bool false)))).bind fun r25 =>
  (gsel true r25.2 (some (r17.1, r25.2)) r25.1).bind fun r26 =>
  (gsel true r26.2 (some (r3.1, r26.2)) r25.1).bind fun r27 =>
  (gsel true r27.2 (pv r27.2 (binA Try.prog .eql 3 r26.1 r27.1)) r25.1).bind fun r28 =>
  (pv r28.2 (pickA r25.1 r28.1 (.v (Go.Value.bool false)))).bind fun r29 =>
  (gsel true r29.2 (pv r29.2 (loadA Try.prog 26 r29.2 r8.1)) r29.1).bind fun r30 =>
  (gsel true r30.2 (pv r30.2 (loadA Try.prog 26 r30.2 r13.1)) r29.1).bind fun r31 =>
  (gsel true r31.2 (pv r31.2 (binA Try.prog .eql 26 r30.1 r31.1)) r29.1).bind fun r32 =>
  (gsel true r32.2 (some (r3.1, r32.2)) r29.1).bind fun r33 =>
  (gsel true r33.2 (some (r4.1, r33.2)) r29.1).bind fun r34 =>
  (gsel true r34.2 (pv r34.2 (binA Try.prog .eql 3 r33.1 r34.1)) r29.1).bind fun r35 =>
  (gsel true r35.2 (pv r35.2 (binA Try.prog .eql 4 r32.1 r35.1)) r29.1).bind fun r36 =>
  (pv r36.2 (pickA r29.1 r36.1 (.v (Go.Value.bool false)))).bind fun r37 =>
  (gsel true r37.2 (some (r3.1, r37.2)) r37.1).bind fun r38 =>
  (gsel true r38.2 (pv r38.2 (binA Try.prog .mul 3 (.v (Go.Value.int Go.IntKind.i64 64)) r38.1)) r37.1).bind fun r39 =>
  (gsel true r39.2 (pv r39.2 (binA Try.prog .add 3 r39.1 (.v (Go.Value.int Go.IntKind.i64 1)))) r37.1).bind fun r40 =>
  (gsel true r40.2 (callA E md0 r40.2 7 [r40.1]) r37.1).bind fun r41 =>
  (gsel true r41.2 (some (r3.1, r41.2)) r37.1).bind fun r42 =>
  (gsel true r42.2 (pv r42.2 (binA Try.prog .add 3 r42.1 (.v (Go.Value.int Go.IntKind.i64 1)))) r37.1).bind fun r43 =>
  (gsel true r43.2 (pv r43.2 (binA Try.prog .eql 3 r41.1 r43.1)) r37.1).bind fun r44 =>
  (pv r44.2 (pickA r37.1 r44.1 (.v (Go.Value.bool false)))).bind fun r45 =>
  (gsel true r45.2 (some (r3.1, r45.2)) r45.1).bind fun r46 =>
  (gsel true r46.2 (pv r46.2 (binA Try.prog .mul 3 (.v (Go.Value.int Go.IntKind.i64 64)) r46.1)) r45.1).bind fun r47 =>
  (gsel true r47.2 (callA E md0 r47.2 7 [r47.1]) r45.1).bind fun r48 =>
  (gsel true r48.2 (some (r3.1, r48.2)) r45.1).bind fun r49 =>
  (gsel true r49.2 (pv r49.2 (binA Try.prog .eql 3 r48.1 r49.1)) r45.1).bind fun r50 =>
  (pv r50.2 (pickA r45.1 r50.1 (.v (Go.Value.bool false)))).bind fun r51 =>
  some (.ret, ⟨[(4, r51.1), (10, r18.1), (9, r17.1), (8, r12.1), (7, r13.1), (6, r7.1), (5, r8.1), (1, r4.1), (0, r3.1), (12, r2.1), (4, (.v (Go.Value.bool false))), (0, a0), (1, a1)], r51.2⟩))
theorem c5_eq : Try.f5.body = some c5 := by kernel_rfl
theorem d5 : drawsOk Try.prog md0 c5 = true := by kernel_rfl
theorem F5_eq (E : FnA) (n n0 : Nat) (a0 a1 : AV) (bx : Bx) : evK Try.prog md0 E 72 kp5 n n0 c5 ⟨[(0, a0), (1, a1)], bx⟩ (fun s => some (.normal, s)) (fun i s => some (.exit i, s)) = F5 E n n0 a0 a1 bx := by kernel_rfl

theorem E5 (n : Nat) (a0 a1 : AV) (bx : Bx) : evFn cx0 ext0 (n + 1) 5 [a0, a1] bx = fin Try.prog [.tmp 4] (F5 (evFn cx0 ext0 n) n bx.length a0 a1 bx) := by
  rw [evFn_eq2 (cx := cx0) (c := c5) rfl Try.func5 c5_eq (of_decide_eq_true (by kernel_rfl)) d5 (of_decide_eq_true (by kernel_rfl))]
  exact congrArg (fin Try.prog [.tmp 4]) (F5_eq (evFn cx0 ext0 n) n bx.length a0 a1 bx)

/-- scupper/ptrs.Blocks -/
def kp7 : Option (List Nat) := some [0, 2, 4]
noncomputable def c7 : Code := Try.f7.body.getD .skip
noncomputable def F7 (E : FnA) (n n0 : Nat) (a0 : AV) (bx : Bx) : Option (Ex × S) :=
  (pv bx (binA Try.prog .leq 3 a0 (.v (Go.Value.int Go.IntKind.i64 0)))).bind fun r1 =>
  condA r1.1 (some (.ret, ⟨[(2, (.v (Go.Value.int Go.IntKind.i64 0))), (4, r1.1), (2, (.v (Go.Value.int Go.IntKind.i64 0))), (0, a0)], r1.2⟩)) ((pv r1.2 (binA Try.prog .sub 3 a0 (.v (Go.Value.int Go.IntKind.i64 1)))).bind fun r2 =>
  (pv r2.2 (binA Try.prog .quo 3 r2.1 (.v (Go.Value.int Go.IntKind.i64 64)))).bind fun r3 =>
  (pv r3.2 (binA Try.prog .add 3 r3.1 (.v (Go.Value.int Go.IntKind.i64 1)))).bind fun r4 =>
  some (.ret, ⟨[(2, r4.1), (4, r1.1), (2, (.v (Go.Value.int Go.IntKind.i64 0))), (0, a0)], r4.2⟩))
theorem c7_eq : Try.f7.body = some c7 := by kernel_rfl
theorem d7 : drawsOk Try.prog md0 c7 = true := by kernel_rfl
theorem F7_eq (E : FnA) (n n0 : Nat) (a0 : AV) (bx : Bx) : evK Try.prog md0 E 9 kp7 n n0 c7 ⟨[(0, a0)], bx⟩ (fun s => some (.normal, s)) (fun i s => some (.exit i, s)) = F7 E n n0 a0 bx := by kernel_rfl

theorem E7 (n : Nat) (a0 : AV) (bx : Bx) : evFn cx0 ext0 (n + 1) 7 [a0] bx = fin Try.prog [.tmp 2] (F7 (evFn cx0 ext0 n) n bx.length a0 bx) := by
  rw [evFn_eq2 (cx := cx0) (c := c7) rfl Try.func7 c7_eq (of_decide_eq_true (by kernel_rfl)) d7 (of_decide_eq_true (by kernel_rfl))]
  exact congrArg (fin Try.prog [.tmp 2]) (F7_eq (evFn cx0 ext0 n) n bx.length a0 bx)

/-- scupper/scupperref11.Blocks -/
def kp8 : Option (List Nat) := some [0, 2, 4]
noncomputable def c8 : Code := Try.f8.body.getD .skip
noncomputable def F8 (E : FnA) (n n0 : Nat) (a0 : AV) (bx : Bx) : Option (Ex × S) :=
  (pv bx (binA Try.prog .leq 3 a0 (.v (Go.Value.int Go.IntKind.i64 0)))).bind fun r1 =>
  condA r1.1 (some (.ret, ⟨[(2, (.v (Go.Value.int Go.IntKind.i64 0))), (4, r1.1), (2, (.v (Go.Value.int Go.IntKind.i64 0))), (0, a0)], r1.2⟩)) ((pv r1.2 (binA Try.prog .sub 3 a0 (.v (Go.Value.int Go.IntKind.i64 1)))).bind fun r2 =>
  (pv r2.2 (binA Try.prog .quo 3 r2.1 (.v (Go.Value.int Go.IntKind.i64 64)))).bind fun r3 =>
  (pv r3.2 (binA Try.prog .add 3 r3.1 (.v (Go.Value.int Go.IntKind.i64 1)))).bind fun r4 =>
  some (.ret, ⟨[(2, r4.1), (4, r1.1), (2, (.v (Go.Value.int Go.IntKind.i64 0))), (0, a0)], r4.2⟩))
theorem c8_eq : Try.f8.body = some c8 := by kernel_rfl
theorem d8 : drawsOk Try.prog md0 c8 = true := by kernel_rfl
theorem F8_eq (E : FnA) (n n0 : Nat) (a0 : AV) (bx : Bx) : evK Try.prog md0 E 9 kp8 n n0 c8 ⟨[(0, a0)], bx⟩ (fun s => some (.normal, s)) (fun i s => some (.exit i, s)) = F8 E n n0 a0 bx := by kernel_rfl

theorem E8 (n : Nat) (a0 : AV) (bx : Bx) : evFn cx0 ext0 (n + 1) 8 [a0] bx = fin Try.prog [.tmp 2] (F8 (evFn cx0 ext0 n) n bx.length a0 bx) := by
  rw [evFn_eq2 (cx := cx0) (c := c8) rfl Try.func8 c8_eq (of_decide_eq_true (by kernel_rfl)) d8 (of_decide_eq_true (by kernel_rfl))]
  exact congrArg (fin Try.prog [.tmp 2]) (F8_eq (evFn cx0 ext0 n) n bx.length a0 bx)

/-- scupper/scupperlaw11.works -/
def kp9 : Option (List Nat) := some [0, 1, 2, 3, 4]
noncomputable def c9 : Code := Try.f9.body.getD .skip
noncomputable def F9 (E : FnA) (n n0 : Nat) (bx : Bx) : Option (Ex × S) :=
  (callA E md0 bx 10 [(.v (Go.Value.int Go.IntKind.i64 59))]).bind fun r1 =>
  (pv r1.2 (tupA r1.1 0)).bind fun r2 =>
  (pv r2.2 (tupA r1.1 1)).bind fun r3 =>
  (allocA Try.prog r3.2 26).bind fun r4 =>
  (stA Try.prog 26 r4.2 r4.1 r2.1).bind fun r5 =>
  (pv r5.2 (buildA Try.prog 40 [])).bind fun r6 =>
  (callA E md0 r6.2 17 [r6.1, (.v (Go.Value.int Go.IntKind.i64 1)), (.v (Go.Value.int Go.IntKind.u16 258))]).bind fun r7 =>
  (pv r7.2 (tupA r7.1 0)).bind fun r8 =>
  (pv r8.2 (tupA r7.1 1)).bind fun r9 =>
  (allocA Try.prog r9.2 40).bind fun r10 =>
  (stA Try.prog 40 r10.2 r10.1 r8.1).bind fun r11 =>
  (pv r11.2 (loadA Try.prog 26 r11.2 r4.1)).bind fun r12 =>
  (pv r12.2 (buildA Try.prog 26 [(0, (.v (Go.Value.int Go.IntKind.i64 2))), (1, (.v (Go.Value.int Go.IntKind.i64 1))), (2, (.v (Go.Value.int Go.IntKind.i64 1)))])).bind fun r13 =>
  (pv r13.2 (binA Try.prog .eql 26 r12.1 r13.1)).bind fun r14 =>
  (gsel true r14.2 (some (r3.1, r14.2)) r14.1).bind fun r15 =>
  (gsel true r15.2 (pv r15.2 (binA Try.prog .eql 27 r15.1 (.v (Go.Value.int Go.IntKind.i64 0)))) r14.1).bind fun r16 =>
  (pv r16.2 (pickA r14.1 r16.1 (.v (Go.Value.bool false)))).bind fun r17 =>
  (gsel true r17.2 (some (r9.1, r17.2)) r17.1).bind fun r18 =>
  (gsel true r18.2 (pv r18.2 (binA Try.prog .eql 27 r18.1 (.v (Go.Value.int Go.IntKind.i64 0)))) r17.1).bind fun r19 =>
  (pv r19.2 (pickA r17.1 r19.1 (.v (Go.Value.bool false)))).bind fun r20 =>
  (gsel true r20.2 (pv r20.2 (indexAddrA Try.prog 40 r10.1 (.v (Go.Value.int Go.IntKind.i64 2)))) r20.1).bind fun r21 =>
  (gsel true r21.2 (pv r21.2 (loadA Try.prog 5 r21.2 r21.1)) r20.1).bind fun r22 =>
  (gsel true r22.2 (pv r22.2 (binA Try.prog .eql 5 r22.1 (.v (Go.Value.int Go.IntKind.u8 2)))) r20.1).bind fun r23 =>
  (pv r23.2 (pickA r20.1 r23.1 (.v (Go.Value.bool false)))).bind fun r24 =>
  (gsel true r24.2 (pv r24.2 (indexAddrA Try.prog 40 r10.1 (.v (Go.Value.int Go.IntKind.i64 3)))) r24.1).bind fun r25 =>
  (gsel true r25.2 (pv r25.2 (loadA Try.prog 5 r25.2 r25.1)) r24.1).bind fun r26 =>
  (gsel true r26.2 (pv r26.2 (binA Try.prog .eql 5 r26.1 (.v (Go.Value.int Go.IntKind.u8 1)))) r24.1).bind fun r27 =>
  (pv r27.2 (pickA r24.1 r27.1 (.v (Go.Value.bool false)))).bind fun r28 =>
  some (.ret, ⟨[(0, r28.1), (4, r9.1), (3, r10.1), (2, r3.1), (1, r4.1), (0, (.v (Go.Value.bool false)))], r28.2⟩)
theorem c9_eq : Try.f9.body = some c9 := by kernel_rfl
theorem d9 : drawsOk Try.prog md0 c9 = true := by kernel_rfl
theorem F9_eq (E : FnA) (n n0 : Nat) (bx : Bx) : evK Try.prog md0 E 35 kp9 n n0 c9 ⟨[], bx⟩ (fun s => some (.normal, s)) (fun i s => some (.exit i, s)) = F9 E n n0  bx := by kernel_rfl

theorem E9 (n : Nat) (bx : Bx) : evFn cx0 ext0 (n + 1) 9 [] bx = fin Try.prog [.tmp 0] (F9 (evFn cx0 ext0 n) n bx.length  bx) := by
  rw [evFn_eq2 (cx := cx0) (c := c9) rfl Try.func9 c9_eq (of_decide_eq_true (by kernel_rfl)) d9 (of_decide_eq_true (by kernel_rfl))]
  exact congrArg (fin Try.prog [.tmp 0]) (F9_eq (evFn cx0 ext0 n) n bx.length  bx)

/-- scupper/ptrs.To -/
def kp10 : Option (List Nat) := some [0, 2, 3, 4, 12, 17]
noncomputable def c10 : Code := Try.f10.body.getD .skip
noncomputable def F10 (E : FnA) (n n0 : Nat) (a0 : AV) (bx : Bx) : Option (Ex × S) :=
  (allocA Try.prog bx 26).bind fun r1 =>
  (pv r1.2 (binA Try.prog .lss 3 a0 (.v (Go.Value.int Go.IntKind.i64 0)))).bind fun r2 =>
  (gsel false r2.2 (some (a0, r2.2)) r2.1).bind fun r3 =>
  (gsel false r3.2 (pv r3.2 (binA Try.prog .geq 3 r3.1 (.v (Go.Value.int Go.IntKind.i64 760)))) r2.1).bind fun r4 =>
  (pv r4.2 (pickA r2.1 (.v (Go.Value.bool true)) r4.1)).bind fun r5 =>
  condA r5.1 ((pv r5.2 (buildA Try.prog 26 [])).bind fun r6 =>
  (stA Try.prog 26 r6.2 r1.1 r6.1).bind fun r7 =>
  some (.ret, ⟨[(3, (.v (Go.Value.int Go.IntKind.i64 31))), (4, r5.1), (3, (.v (Go.Value.int Go.IntKind.i64 0))), (2, r1.1), (0, a0)], r7.2⟩)) ((pv r5.2 (binA Try.prog .lss 3 a0 (.v (Go.Value.int Go.IntKind.i64 4)))).bind fun r8 =>
  condA r8.1 ((pv r8.2 (buildA Try.prog 26 [(1, a0)])).bind fun r9 =>
  (stA Try.prog 26 r9.2 r1.1 r9.1).bind fun r10 =>
  some (.ret, ⟨[(3, (.v (Go.Value.int Go.IntKind.i64 0))), (12, r8.1), (4, r5.1), (3, (.v (Go.Value.int Go.IntKind.i64 0))), (2, r1.1), (0, a0)], r10.2⟩)) ((pv r8.2 (binA Try.prog .lss 3 a0 (.v (Go.Value.int Go.IntKind.i64 31)))).bind fun r11 =>
  condA r11.1 ((pv r11.2 (binA Try.prog .sub 3 a0 (.v (Go.Value.int Go.IntKind.i64 4)))).bind fun r12 =>
  (pv r12.2 (buildA Try.prog 26 [(0, (.v (Go.Value.int Go.IntKind.i64 1))), (1, r12.1)])).bind fun r13 =>
  (stA Try.prog 26 r13.2 r1.1 r13.1).bind fun r14 =>
  some (.ret, ⟨[(3, (.v (Go.Value.int Go.IntKind.i64 0))), (17, r11.1), (12, r8.1), (4, r5.1), (3, (.v (Go.Value.int Go.IntKind.i64 0))), (2, r1.1), (0, a0)], r14.2⟩)) ((pv r11.2 (binA Try.prog .sub 3 a0 (.v (Go.Value.int Go.IntKind.i64 31)))).bind fun r15 =>
  (pv r15.2 (binA Try.prog .quo 3 r15.1 (.v (Go.Value.int Go.IntKind.i64 27)))).bind fun r16 =>
  (pv r16.2 (binA Try.prog .rem 3 r15.1 (.v (Go.Value.int Go.IntKind.i64 27)))).bind fun r17 =>
  (pv r17.2 (buildA Try.prog 26 [(0, (.v (Go.Value.int Go.IntKind.i64 2))), (1, r16.1), (2, r17.1)])).bind fun r18 =>
  (stA Try.prog 26 r18.2 r1.1 r18.1).bind fun r19 =>
  some (.ret, ⟨[(3, (.v (Go.Value.int Go.IntKind.i64 0))), (0, r15.1), (17, r11.1), (12, r8.1), (4, r5.1), (3, (.v (Go.Value.int Go.IntKind.i64 0))), (2, r1.1), (0, a0)], r19.2⟩))))
theorem c10_eq : Try.f10.body = some c10 := by kernel_rfl
theorem d10 : drawsOk Try.prog md0 c10 = true := by kernel_rfl
theorem F10_eq (E : FnA) (n n0 : Nat) (a0 : AV) (bx : Bx) : evK Try.prog md0 E 30 kp10 n n0 c10 ⟨[(0, a0)], bx⟩ (fun s => some (.normal, s)) (fun i s => some (.exit i, s)) = F10 E n n0 a0 bx := by kernel_rfl

theorem E10 (n : Nat) (a0 : AV) (bx : Bx) : evFn cx0 ext0 (n + 1) 10 [a0] bx = fin Try.prog [.cell 2 26, .tmp 3] (F10 (evFn cx0 ext0 n) n bx.length a0 bx) := by
  rw [evFn_eq2 (cx := cx0) (c := c10) rfl Try.func10 c10_eq (of_decide_eq_true (by kernel_rfl)) d10 (of_decide_eq_true (by kernel_rfl))]
  exact congrArg (fin Try.prog [.cell 2 26, .tmp 3]) (F10_eq (evFn cx0 ext0 n) n bx.length a0 bx)

/-- scupper/scupperref11.To -/
def kp11 : Option (List Nat) := some [0, 2, 3, 9, 12, 16]
noncomputable def c11 : Code := Try.f11.body.getD .skip
noncomputable def F11 (E : FnA) (n n0 : Nat) (a0 : AV) (bx : Bx) : Option (Ex × S) :=
  (allocA Try.prog bx 30).bind fun r1 =>
  (pv r1.2 (binA Try.prog .lss 3 a0 (.v (Go.Value.int Go.IntKind.i64 0)))).bind fun r2 =>
  (gsel false r2.2 (some (a0, r2.2)) r2.1).bind fun r3 =>
  (gsel false r3.2 (pv r3.2 (binA Try.prog .geq 3 r3.1 (.v (Go.Value.int Go.IntKind.i64 760)))) r2.1).bind fun r4 =>
  (pv r4.2 (pickA r2.1 (.v (Go.Value.bool true)) r4.1)).bind fun r5 =>
  condA r5.1 ((pv r5.2 (buildA Try.prog 30 [])).bind fun r6 =>
  (stA Try.prog 30 r6.2 r1.1 r6.1).bind fun r7 =>
  some (.ret, ⟨[(3, (.v (Go.Value.int Go.IntKind.i64 31))), (9, r5.1), (3, (.v (Go.Value.int Go.IntKind.i64 0))), (2, r1.1), (0, a0)], r7.2⟩)) ((pv r5.2 (binA Try.prog .lss 3 a0 (.v (Go.Value.int Go.IntKind.i64 4)))).bind fun r8 =>
  condA r8.1 ((pv r8.2 (buildA Try.prog 30 [(0, (.v (Go.Value.int Go.IntKind.i64 0))), (1, a0), (2, (.v (Go.Value.int Go.IntKind.i64 0)))])).bind fun r9 =>
  (stA Try.prog 30 r9.2 r1.1 r9.1).bind fun r10 =>
  some (.ret, ⟨[(3, (.v (Go.Value.int Go.IntKind.i64 0))), (12, r8.1), (9, r5.1), (3, (.v (Go.Value.int Go.IntKind.i64 0))), (2, r1.1), (0, a0)], r10.2⟩)) ((pv r8.2 (binA Try.prog .lss 3 a0 (.v (Go.Value.int Go.IntKind.i64 31)))).bind fun r11 =>
  condA r11.1 ((pv r11.2 (binA Try.prog .sub 3 a0 (.v (Go.Value.int Go.IntKind.i64 4)))).bind fun r12 =>
  (pv r12.2 (buildA Try.prog 30 [(0, (.v (Go.Value.int Go.IntKind.i64 1))), (1, r12.1), (2, (.v (Go.Value.int Go.IntKind.i64 0)))])).bind fun r13 =>
  (stA Try.prog 30 r13.2 r1.1 r13.1).bind fun r14 =>
  some (.ret, ⟨[(3, (.v (Go.Value.int Go.IntKind.i64 0))), (16, r11.1), (12, r8.1), (9, r5.1), (3, (.v (Go.Value.int Go.IntKind.i64 0))), (2, r1.1), (0, a0)], r14.2⟩)) ((pv r11.2 (binA Try.prog .sub 3 a0 (.v (Go.Value.int Go.IntKind.i64 31)))).bind fun r15 =>
  (pv r15.2 (binA Try.prog .quo 3 r15.1 (.v (Go.Value.int Go.IntKind.i64 27)))).bind fun r16 =>
  (pv r16.2 (binA Try.prog .sub 3 a0 (.v (Go.Value.int Go.IntKind.i64 31)))).bind fun r17 =>
  (pv r17.2 (binA Try.prog .rem 3 r17.1 (.v (Go.Value.int Go.IntKind.i64 27)))).bind fun r18 =>
  (pv r18.2 (buildA Try.prog 30 [(0, (.v (Go.Value.int Go.IntKind.i64 2))), (1, r16.1), (2, r18.1)])).bind fun r19 =>
  (stA Try.prog 30 r19.2 r1.1 r19.1).bind fun r20 =>
  some (.ret, ⟨[(3, (.v (Go.Value.int Go.IntKind.i64 0))), (16, r11.1), (12, r8.1), (9, r5.1), (3, (.v (Go.Value.int Go.IntKind.i64 0))), (2, r1.1), (0, a0)], r20.2⟩))))
theorem c11_eq : Try.f11.body = some c11 := by kernel_rfl
theorem d11 : drawsOk Try.prog md0 c11 = true := by kernel_rfl
theorem F11_eq (E : FnA) (n n0 : Nat) (a0 : AV) (bx : Bx) : evK Try.prog md0 E 27 kp11 n n0 c11 ⟨[(0, a0)], bx⟩ (fun s => some (.normal, s)) (fun i s => some (.exit i, s)) = F11 E n n0 a0 bx := by kernel_rfl

theorem E11 (n : Nat) (a0 : AV) (bx : Bx) : evFn cx0 ext0 (n + 1) 11 [a0] bx = fin Try.prog [.cell 2 30, .tmp 3] (F11 (evFn cx0 ext0 n) n bx.length a0 bx) := by
  rw [evFn_eq2 (cx := cx0) (c := c11) rfl Try.func11 c11_eq (of_decide_eq_true (by kernel_rfl)) d11 (of_decide_eq_true (by kernel_rfl))]
  exact congrArg (fin Try.prog [.cell 2 30, .tmp 3]) (F11_eq (evFn cx0 ext0 n) n bx.length a0 bx)

/-- scupper/ptrs.Block -/
def kp12 : Option (List Nat) := some [0, 1, 2, 3, 4, 5, 6, 20, 24, 25, 29, 49]
noncomputable def c12 : Code := Try.f12.body.getD .skip
noncomputable def F12 (E : FnA) (n n0 : Nat) (a0 : AV) (bx : Bx) : Option (Ex × S) :=
  (boxA bx a0).bind fun r1 =>
  (pv r1.2 (fieldAddrA Try.prog 26 r1.1 1)).bind fun r2 =>
  (pv r2.2 (loadA Try.prog 3 r2.2 r2.1)).bind fun r3 =>
  (pv r3.2 (binA Try.prog .lss 3 r3.1 (.v (Go.Value.int Go.IntKind.i64 0)))).bind fun r4 =>
  (gsel false r4.2 (pv r4.2 (fieldAddrA Try.prog 26 r1.1 1)) r4.1).bind fun r5 =>
  (gsel false r5.2 (pv r5.2 (loadA Try.prog 3 r5.2 r5.1)) r4.1).bind fun r6 =>
  (gsel false r6.2 (pv r6.2 (binA Try.prog .geq 3 r6.1 (.v (Go.Value.int Go.IntKind.i64 27)))) r4.1).bind fun r7 =>
  (pv r7.2 (pickA r4.1 (.v (Go.Value.bool true)) r7.1)).bind fun r8 =>
  (gsel false r8.2 (pv r8.2 (fieldAddrA Try.prog 26 r1.1 2)) r8.1).bind fun r9 =>
  (gsel false r9.2 (pv r9.2 (loadA Try.prog 3 r9.2 r9.1)) r8.1).bind fun r10 =>
  (gsel false r10.2 (callA E md0 r10.2 22 [r10.1]) r8.1).bind fun r11 =>
  (gsel false r11.2 (pv r11.2 (unA .not r11.1)) r8.1).bind fun r12 =>
  (pv r12.2 (pickA r8.1 (.v (Go.Value.bool true)) r12.1)).bind fun r13 =>
  condA r13.1 (some (.ret, ⟨[(3, (.v (Go.Value.int Go.IntKind.i64 2))), (2, (.v (Go.Value.int Go.IntKind.i64 0))), (20, r13.1), (3, (.v (Go.Value.int Go.IntKind.i64 0))), (2, (.v (Go.Value.int Go.IntKind.i64 0))), (1, r1.1), (0, a0)], r13.2⟩)) ((pv r13.2 (fieldAddrA Try.prog 26 r1.1 1)).bind fun r14 =>
  (pv r14.2 (loadA Try.prog 3 r14.2 r14.1)).bind fun r15 =>
  (pv r15.2 (fieldAddrA Try.prog 26 r1.1 0)).bind fun r16 =>
  (pv r16.2 (loadA Try.prog 3 r16.2 r16.1)).bind fun r17 =>
  (pv r17.2 (binA Try.prog .eql 3 r17.1 (.v (Go.Value.int Go.IntKind.i64 1)))).bind fun r18 =>
  condA r18.1 ((pv r18.2 (binA Try.prog .add 3 r15.1 (.v (Go.Value.int Go.IntKind.i64 4)))).bind fun r19 =>
  (callA E md0 r19.2 10 [r19.1]).bind fun r20 =>
  (pv r20.2 (tupA r20.1 0)).bind fun r21 =>
  (pv r21.2 (tupA r20.1 1)).bind fun r22 =>
  (allocA Try.prog r22.2 26).bind fun r23 =>
  (stA Try.prog 26 r23.2 r23.1 r21.1).bind fun r24 =>
  (pv r24.2 (binA Try.prog .neq 27 r22.1 (.v (Go.Value.int Go.IntKind.i64 0)))).bind fun r25 =>
  (gsel false r25.2 (pv r25.2 (loadA Try.prog 26 r25.2 r23.1)) r25.1).bind fun r26 =>
  (gsel false r26.2 (pv r26.2 (loadA Try.prog 26 r26.2 r1.1)) r25.1).bind fun r27 =>
  (gsel false r27.2 (pv r27.2 (binA Try.prog .neq 26 r26.1 r27.1)) r25.1).bind fun r28 =>
  (pv r28.2 (pickA r25.1 (.v (Go.Value.bool true)) r28.1)).bind fun r29 =>
  condA r29.1 (some (.ret, ⟨[(3, (.v (Go.Value.int Go.IntKind.i64 2))), (2, (.v (Go.Value.int Go.IntKind.i64 0))), (49, r29.1), (6, r22.1), (5, r23.1), (4, r19.1), (25, r18.1), (24, r17.1), (4, r15.1), (20, r13.1), (3, (.v (Go.Value.int Go.IntKind.i64 0))), (2, (.v (Go.Value.int Go.IntKind.i64 0))), (1, r1.1), (0, a0)], r29.2⟩)) (some (.ret, ⟨[(3, (.v (Go.Value.int Go.IntKind.i64 0))), (2, r19.1), (49, r29.1), (6, r22.1), (5, r23.1), (4, r19.1), (25, r18.1), (24, r17.1), (4, r15.1), (20, r13.1), (3, (.v (Go.Value.int Go.IntKind.i64 0))), (2, (.v (Go.Value.int Go.IntKind.i64 0))), (1, r1.1), (0, a0)], r29.2⟩))) ((pv r18.2 (binA Try.prog .eql 3 r17.1 (.v (Go.Value.int Go.IntKind.i64 2)))).bind fun r30 =>
  condA r30.1 ((pv r30.2 (fieldAddrA Try.prog 26 r1.1 1)).bind fun r31 =>
  (pv r31.2 (loadA Try.prog 3 r31.2 r31.1)).bind fun r32 =>
  (pv r32.2 (binA Try.prog .mul 3 (.v (Go.Value.int Go.IntKind.i64 27)) r32.1)).bind fun r33 =>
  (pv r33.2 (binA Try.prog .add 3 (.v (Go.Value.int Go.IntKind.i64 31)) r33.1)).bind fun r34 =>
  (pv r34.2 (fieldAddrA Try.prog 26 r1.1 2)).bind fun r35 =>
  (pv r35.2 (loadA Try.prog 3 r35.2 r35.1)).bind fun r36 =>
  (pv r36.2 (binA Try.prog .add 3 r34.1 r36.1)).bind fun r37 =>
  (callA E md0 r37.2 10 [r37.1]).bind fun r38 =>
  (pv r38.2 (tupA r38.1 0)).bind fun r39 =>
  (pv r39.2 (tupA r38.1 1)).bind fun r40 =>
  (allocA Try.prog r40.2 26).bind fun r41 =>
  (stA Try.prog 26 r41.2 r41.1 r39.1).bind fun r42 =>
  (pv r42.2 (binA Try.prog .neq 27 r40.1 (.v (Go.Value.int Go.IntKind.i64 0)))).bind fun r43 =>
  (gsel false r43.2 (pv r43.2 (loadA Try.prog 26 r43.2 r41.1)) r43.1).bind fun r44 =>
  (gsel false r44.2 (pv r44.2 (loadA Try.prog 26 r44.2 r1.1)) r43.1).bind fun r45 =>
  (gsel false r45.2 (pv r45.2 (binA Try.prog .neq 26 r44.1 r45.1)) r43.1).bind fun r46 =>
  (pv r46.2 (pickA r43.1 (.v (Go.Value.bool true)) r46.1)).bind fun r47 =>
  condA r47.1 (some (.ret, ⟨[(3, (.v (Go.Value.int Go.IntKind.i64 2))), (2, (.v (Go.Value.int Go.IntKind.i64 0))), (49, r47.1), (6, r40.1), (5, r41.1), (4, r37.1), (29, r30.1), (25, r18.1), (24, r17.1), (4, r15.1), (20, r13.1), (3, (.v (Go.Value.int Go.IntKind.i64 0))), (2, (.v (Go.Value.int Go.IntKind.i64 0))), (1, r1.1), (0, a0)], r47.2⟩)) (some (.ret, ⟨[(3, (.v (Go.Value.int Go.IntKind.i64 0))), (2, r37.1), (49, r47.1), (6, r40.1), (5, r41.1), (4, r37.1), (29, r30.1), (25, r18.1), (24, r17.1), (4, r15.1), (20, r13.1), (3, (.v (Go.Value.int Go.IntKind.i64 0))), (2, (.v (Go.Value.int Go.IntKind.i64 0))), (1, r1.1), (0, a0)], r47.2⟩))) ((callA E md0 r30.2 10 [r15.1]).bind fun r48 =>
  (pv r48.2 (tupA r48.1 0)).bind fun r49 =>
  (pv r49.2 (tupA r48.1 1)).bind fun r50 =>
  (allocA Try.prog r50.2 26).bind fun r51 =>
  (stA Try.prog 26 r51.2 r51.1 r49.1).bind fun r52 =>
  (pv r52.2 (binA Try.prog .neq 27 r50.1 (.v (Go.Value.int Go.IntKind.i64 0)))).bind fun r53 =>
  (gsel false r53.2 (pv r53.2 (loadA Try.prog 26 r53.2 r51.1)) r53.1).bind fun r54 =>
  (gsel false r54.2 (pv r54.2 (loadA Try.prog 26 r54.2 r1.1)) r53.1).bind fun r55 =>
  (gsel false r55.2 (pv r55.2 (binA Try.prog .neq 26 r54.1 r55.1)) r53.1).bind fun r56 =>
  (pv r56.2 (pickA r53.1 (.v (Go.Value.bool true)) r56.1)).bind fun r57 =>
  condA r57.1 (some (.ret, ⟨[(3, (.v (Go.Value.int Go.IntKind.i64 2))), (2, (.v (Go.Value.int Go.IntKind.i64 0))), (49, r57.1), (6, r50.1), (5, r51.1), (29, r30.1), (25, r18.1), (24, r17.1), (4, r15.1), (20, r13.1), (3, (.v (Go.Value.int Go.IntKind.i64 0))), (2, (.v (Go.Value.int Go.IntKind.i64 0))), (1, r1.1), (0, a0)], r57.2⟩)) (some (.ret, ⟨[(3, (.v (Go.Value.int Go.IntKind.i64 0))), (2, r15.1), (49, r57.1), (6, r50.1), (5, r51.1), (29, r30.1), (25, r18.1), (24, r17.1), (4, r15.1), (20, r13.1), (3, (.v (Go.Value.int Go.IntKind.i64 0))), (2, (.v (Go.Value.int Go.IntKind.i64 0))), (1, r1.1), (0, a0)], r57.2⟩)))))
theorem c12_eq : Try.f12.body = some c12 := by kernel_rfl
theorem d12 : drawsOk Try.prog md0 c12 = true := by kernel_rfl
theorem F12_eq (E : FnA) (n n0 : Nat) (a0 : AV) (bx : Bx) : evK Try.prog md0 E 51 kp12 n n0 c12 ⟨[(0, a0)], bx⟩ (fun s => some (.normal, s)) (fun i s => some (.exit i, s)) = F12 E n n0 a0 bx := by kernel_rfl

theorem E12 (n : Nat) (a0 : AV) (bx : Bx) : evFn cx0 ext0 (n + 1) 12 [a0] bx = fin Try.prog [.tmp 2, .tmp 3] (F12 (evFn cx0 ext0 n) n bx.length a0 bx) := by
  rw [evFn_eq2 (cx := cx0) (c := c12) rfl Try.func12 c12_eq (of_decide_eq_true (by kernel_rfl)) d12 (of_decide_eq_true (by kernel_rfl))]
  exact congrArg (fin Try.prog [.tmp 2, .tmp 3]) (F12_eq (evFn cx0 ext0 n) n bx.length a0 bx)

/-- scupper/scupperref11.Block -/
def kp13 : Option (List Nat) := some [0, 1, 2, 3, 4, 5, 8, 18]
noncomputable def c13 : Code := Try.f13.body.getD .skip
noncomputable def F13 (E : FnA) (n n0 : Nat) (a0 : AV) (bx : Bx) : Option (Ex × S) :=
  (boxA bx a0).bind fun r1 =>
  exitA (iter ⟨[(4, (.v (Go.Value.int Go.IntKind.i64 0))), (3, (.v (Go.Value.int Go.IntKind.i64 0))), (2, (.v (Go.Value.int Go.IntKind.i64 0))), (1, r1.1), (0, a0)], r1.2⟩ (fun s1 => (pv s1.bx (binA Try.prog .lss 3 (get s1.env 4) (.v (Go.Value.int Go.IntKind.i64 760)))).bind fun r5 =>
  condA r5.1 ((callA E md0 r5.2 11 [(get (prune kp13 s1.env) 4)]).bind fun r6 =>
  (pv r6.2 (tupA r6.1 0)).bind fun r7 =>
  (pv r7.2 (tupA r6.1 1)).bind fun r8 =>
  (allocA Try.prog r8.2 30).bind fun r9 =>
  (stA Try.prog 30 r9.2 r9.1 r7.1).bind fun r10 =>
  (pv r10.2 (loadA Try.prog 30 r10.2 r9.1)).bind fun r11 =>
  (pv r11.2 (loadA Try.prog 30 r11.2 (get (prune kp13 (prune kp13 s1.env)) 1))).bind fun r12 =>
  (pv r12.2 (binA Try.prog .eql 30 r11.1 r12.1)).bind fun r13 =>
  condA r13.1 (some (.ret, ⟨((3, (.v (Go.Value.int Go.IntKind.i64 0))) :: (2, (get (prune kp13 (prune kp13 (prune kp13 s1.env))) 4)) :: (18, r13.1) :: (5, r9.1) :: (8, r5.1) :: (prune kp13 (prune kp13 (prune kp13 (prune kp13 s1.env))))), r13.2⟩)) ((pv r13.2 (binA Try.prog .add 3 (get (prune kp13 (prune kp13 (prune kp13 s1.env))) 4) (.v (Go.Value.int Go.IntKind.i64 1)))).bind fun r14 =>
  some (.normal, ⟨((4, r14.1) :: (18, r13.1) :: (5, r9.1) :: (8, r5.1) :: (prune kp13 (prune kp13 (prune kp13 (prune kp13 s1.env))))), r14.2⟩))) (some (.exit 0, ⟨((8, r5.1) :: (prune kp13 s1.env)), r5.2⟩))) n ⟨[(4, (.v (Go.Value.int Go.IntKind.i64 0))), (3, (.v (Go.Value.int Go.IntKind.i64 0))), (2, (.v (Go.Value.int Go.IntKind.i64 0))), (1, r1.1), (0, a0)], r1.2⟩) (fun s2 => some (.ret, ⟨((3, (.v (Go.Value.int Go.IntKind.i64 2))) :: (2, (.v (Go.Value.int Go.IntKind.i64 0))) :: (prune kp13 s2.env)), s2.bx⟩)) (fun i3 s2 => if i3 = 0 then some (.ret, ⟨((3, (.v (Go.Value.int Go.IntKind.i64 2))) :: (2, (.v (Go.Value.int Go.IntKind.i64 0))) :: (prune kp13 s2.env)), s2.bx⟩) else some (.exit i3, ⟨s2.env, s2.bx⟩))
theorem c13_eq : Try.f13.body = some c13 := by kernel_rfl
theorem d13 : drawsOk Try.prog md0 c13 = true := by kernel_rfl
theorem F13_eq (E : FnA) (n n0 : Nat) (a0 : AV) (bx : Bx) : evK Try.prog md0 E 20 kp13 n n0 c13 ⟨[(0, a0)], bx⟩ (fun s => some (.normal, s)) (fun i s => some (.exit i, s)) = F13 E n n0 a0 bx := by kernel_rfl

theorem E13 (n : Nat) (a0 : AV) (bx : Bx) : evFn cx0 ext0 (n + 1) 13 [a0] bx = fin Try.prog [.tmp 2, .tmp 3] (F13 (evFn cx0 ext0 n) n bx.length a0 bx) := by
  rw [evFn_eq2 (cx := cx0) (c := c13) rfl Try.func13 c13_eq (of_decide_eq_true (by kernel_rfl)) d13 (of_decide_eq_true (by kernel_rfl))]
  exact congrArg (fin Try.prog [.tmp 2, .tmp 3]) (F13_eq (evFn cx0 ext0 n) n bx.length a0 bx)

/-- scupper/scupperbase.Among -/
def kp14 : Option (List Nat) := some [0, 1, 4, 6]
noncomputable def c14 : Code := Try.f14.body.getD .skip
noncomputable def F14 (E : FnA) (n n0 : Nat) (a0 a1 : AV) (bx : Bx) : Option (Ex × S) :=
  (pv bx (binA Try.prog .lss 3 a1 (.v (Go.Value.int Go.IntKind.i64 1)))).bind fun r1 =>
  condA r1.1 (some (.ret, ⟨[(4, (.v (Go.Value.int Go.IntKind.i64 0))), (6, r1.1), (4, (.v (Go.Value.int Go.IntKind.i64 0))), (0, a0), (1, a1)], r1.2⟩)) ((convA Try.prog r1.2 3 50 a0).bind fun r2 =>
  (convA Try.prog r2.2 3 50 a1).bind fun r3 =>
  (pv r3.2 (binA Try.prog .rem 50 r2.1 r3.1)).bind fun r4 =>
  (convA Try.prog r4.2 50 3 r4.1).bind fun r5 =>
  some (.ret, ⟨[(4, r5.1), (6, r1.1), (4, (.v (Go.Value.int Go.IntKind.i64 0))), (0, a0), (1, a1)], r5.2⟩))
theorem c14_eq : Try.f14.body = some c14 := by kernel_rfl
theorem d14 : drawsOk Try.prog md0 c14 = true := by kernel_rfl
theorem F14_eq (E : FnA) (n n0 : Nat) (a0 a1 : AV) (bx : Bx) : evK Try.prog md0 E 13 kp14 n n0 c14 ⟨[(0, a0), (1, a1)], bx⟩ (fun s => some (.normal, s)) (fun i s => some (.exit i, s)) = F14 E n n0 a0 a1 bx := by kernel_rfl

theorem E14 (n : Nat) (a0 a1 : AV) (bx : Bx) : evFn cx0 ext0 (n + 1) 14 [a0, a1] bx = fin Try.prog [.tmp 4] (F14 (evFn cx0 ext0 n) n bx.length a0 a1 bx) := by
  rw [evFn_eq2 (cx := cx0) (c := c14) rfl Try.func14 c14_eq (of_decide_eq_true (by kernel_rfl)) d14 (of_decide_eq_true (by kernel_rfl))]
  exact congrArg (fin Try.prog [.tmp 4]) (F14_eq (evFn cx0 ext0 n) n bx.length a0 a1 bx)

/-- scupper/ptrs.At -/
def kp15 : Option (List Nat) := some [0, 1, 2, 4, 5, 8]
noncomputable def c15 : Code := Try.f15.body.getD .skip
noncomputable def F15 (E : FnA) (n n0 : Nat) (a0 a1 : AV) (bx : Bx) : Option (Ex × S) :=
  (boxA bx a0).bind fun r1 =>
  (callA E md0 r1.2 22 [a1]).bind fun r2 =>
  (pv r2.2 (unA .not r2.1)).bind fun r3 =>
  condA r3.1 (some (.ret, ⟨[(5, (.v (Go.Value.int Go.IntKind.i64 2))), (4, (.v (Go.Value.int Go.IntKind.u16 0))), (8, r3.1), (5, (.v (Go.Value.int Go.IntKind.i64 0))), (4, (.v (Go.Value.int Go.IntKind.u16 0))), (2, r1.1), (0, a0), (1, a1)], r3.2⟩)) ((pv r3.2 (sliceA Try.prog r3.2 40 r1.1 none none none)).bind fun r4 =>
  (pv r4.2 (binA Try.prog .mul 3 (.v (Go.Value.int Go.IntKind.i64 2)) a1)).bind fun r5 =>
  (callA E md0 r5.2 23 [r4.1, r5.1]).bind fun r6 =>
  (pv r6.2 (tupA r6.1 0)).bind fun r7 =>
  (pv r7.2 (tupA r6.1 1)).bind fun r8 =>
  some (.ret, ⟨[(5, r8.1), (4, r7.1), (8, r3.1), (5, (.v (Go.Value.int Go.IntKind.i64 0))), (4, (.v (Go.Value.int Go.IntKind.u16 0))), (2, r1.1), (0, a0), (1, a1)], r8.2⟩))
theorem c15_eq : Try.f15.body = some c15 := by kernel_rfl
theorem d15 : drawsOk Try.prog md0 c15 = true := by kernel_rfl
theorem F15_eq (E : FnA) (n n0 : Nat) (a0 a1 : AV) (bx : Bx) : evK Try.prog md0 E 15 kp15 n n0 c15 ⟨[(0, a0), (1, a1)], bx⟩ (fun s => some (.normal, s)) (fun i s => some (.exit i, s)) = F15 E n n0 a0 a1 bx := by kernel_rfl

theorem E15 (n : Nat) (a0 a1 : AV) (bx : Bx) : evFn cx0 ext0 (n + 1) 15 [a0, a1] bx = fin Try.prog [.tmp 4, .tmp 5] (F15 (evFn cx0 ext0 n) n bx.length a0 a1 bx) := by
  rw [evFn_eq2 (cx := cx0) (c := c15) rfl Try.func15 c15_eq (of_decide_eq_true (by kernel_rfl)) d15 (of_decide_eq_true (by kernel_rfl))]
  exact congrArg (fin Try.prog [.tmp 4, .tmp 5]) (F15_eq (evFn cx0 ext0 n) n bx.length a0 a1 bx)

/-- scupper/scupperref11.At -/
def kp16 : Option (List Nat) := some [0, 1, 2, 4, 5, 11]
noncomputable def c16 : Code := Try.f16.body.getD .skip
noncomputable def F16 (E : FnA) (n n0 : Nat) (a0 a1 : AV) (bx : Bx) : Option (Ex × S) :=
  (boxA bx a0).bind fun r1 =>
  (pv r1.2 (binA Try.prog .lss 3 a1 (.v (Go.Value.int Go.IntKind.i64 0)))).bind fun r2 =>
  (gsel false r2.2 (some (a1, r2.2)) r2.1).bind fun r3 =>
  (gsel false r3.2 (pv r3.2 (binA Try.prog .gtr 3 r3.1 (.v (Go.Value.int Go.IntKind.i64 26)))) r2.1).bind fun r4 =>
  (pv r4.2 (pickA r2.1 (.v (Go.Value.bool true)) r4.1)).bind fun r5 =>
  condA r5.1 (some (.ret, ⟨[(5, (.v (Go.Value.int Go.IntKind.i64 2))), (4, (.v (Go.Value.int Go.IntKind.u16 0))), (11, r5.1), (5, (.v (Go.Value.int Go.IntKind.i64 0))), (4, (.v (Go.Value.int Go.IntKind.u16 0))), (2, r1.1), (0, a0), (1, a1)], r5.2⟩)) ((pv r5.2 (sliceA Try.prog r5.2 40 r1.1 none none none)).bind fun r6 =>
  (pv r6.2 (binA Try.prog .mul 3 (.v (Go.Value.int Go.IntKind.i64 2)) a1)).bind fun r7 =>
  (callA E md0 r7.2 24 [r6.1, r7.1]).bind fun r8 =>
  (pv r8.2 (tupA r8.1 0)).bind fun r9 =>
  (pv r9.2 (tupA r8.1 1)).bind fun r10 =>
  some (.ret, ⟨[(5, r10.1), (4, r9.1), (11, r5.1), (5, (.v (Go.Value.int Go.IntKind.i64 0))), (4, (.v (Go.Value.int Go.IntKind.u16 0))), (2, r1.1), (0, a0), (1, a1)], r10.2⟩))
theorem c16_eq : Try.f16.body = some c16 := by kernel_rfl
theorem d16 : drawsOk Try.prog md0 c16 = true := by kernel_rfl
theorem F16_eq (E : FnA) (n n0 : Nat) (a0 a1 : AV) (bx : Bx) : evK Try.prog md0 E 18 kp16 n n0 c16 ⟨[(0, a0), (1, a1)], bx⟩ (fun s => some (.normal, s)) (fun i s => some (.exit i, s)) = F16 E n n0 a0 a1 bx := by kernel_rfl

theorem E16 (n : Nat) (a0 a1 : AV) (bx : Bx) : evFn cx0 ext0 (n + 1) 16 [a0, a1] bx = fin Try.prog [.tmp 4, .tmp 5] (F16 (evFn cx0 ext0 n) n bx.length a0 a1 bx) := by
  rw [evFn_eq2 (cx := cx0) (c := c16) rfl Try.func16 c16_eq (of_decide_eq_true (by kernel_rfl)) d16 (of_decide_eq_true (by kernel_rfl))]
  exact congrArg (fin Try.prog [.tmp 4, .tmp 5]) (F16_eq (evFn cx0 ext0 n) n bx.length a0 a1 bx)

/-- scupper/ptrs.With -/
def kp17 : Option (List Nat) := some [0, 1, 2, 3, 6, 7, 8, 11]
noncomputable def c17 : Code := Try.f17.body.getD .skip
noncomputable def F17 (E : FnA) (n n0 : Nat) (a0 a1 a2 : AV) (bx : Bx) : Option (Ex × S) :=
  (boxA bx a0).bind fun r1 =>
  (allocA Try.prog r1.2 40).bind fun r2 =>
  (callA E md0 r2.2 22 [a1]).bind fun r3 =>
  (pv r3.2 (unA .not r3.1)).bind fun r4 =>
  condA r4.1 ((pv r4.2 (buildA Try.prog 40 [])).bind fun r5 =>
  (stA Try.prog 40 r5.2 r2.1 r5.1).bind fun r6 =>
  some (.ret, ⟨[(7, (.v (Go.Value.int Go.IntKind.i64 2))), (11, r4.1), (7, (.v (Go.Value.int Go.IntKind.i64 0))), (6, r2.1), (3, r1.1), (0, a0), (1, a1), (2, a2)], r6.2⟩)) ((callA E md0 r4.2 25 [a2]).bind fun r7 =>
  (allocA Try.prog r7.2 53).bind fun r8 =>
  (stA Try.prog 53 r8.2 r8.1 r7.1).bind fun r9 =>
  (pv r9.2 (binA Try.prog .mul 3 (.v (Go.Value.int Go.IntKind.i64 2)) a1)).bind fun r10 =>
  (pv r10.2 (sliceA Try.prog r10.2 40 r1.1 (some r10.1) none none)).bind fun r11 =>
  (pv r11.2 (sliceA Try.prog r11.2 53 r8.1 none none none)).bind fun r12 =>
  (copyA Try.prog r12.2 52 r11.1 r12.1).bind fun r13 =>
  (pv r13.2 (loadA Try.prog 40 r13.2 r1.1)).bind fun r14 =>
  (stA Try.prog 40 r14.2 r2.1 r14.1).bind fun r15 =>
  some (.ret, ⟨[(7, (.v (Go.Value.int Go.IntKind.i64 0))), (8, r8.1), (11, r4.1), (7, (.v (Go.Value.int Go.IntKind.i64 0))), (6, r2.1), (3, r1.1), (0, a0), (1, a1), (2, a2)], r15.2⟩))
theorem c17_eq : Try.f17.body = some c17 := by kernel_rfl
theorem d17 : drawsOk Try.prog md0 c17 = true := by kernel_rfl
theorem F17_eq (E : FnA) (n n0 : Nat) (a0 a1 a2 : AV) (bx : Bx) : evK Try.prog md0 E 21 kp17 n n0 c17 ⟨[(0, a0), (1, a1), (2, a2)], bx⟩ (fun s => some (.normal, s)) (fun i s => some (.exit i, s)) = F17 E n n0 a0 a1 a2 bx := by kernel_rfl

theorem E17 (n : Nat) (a0 a1 a2 : AV) (bx : Bx) : evFn cx0 ext0 (n + 1) 17 [a0, a1, a2] bx = fin Try.prog [.cell 6 40, .tmp 7] (F17 (evFn cx0 ext0 n) n bx.length a0 a1 a2 bx) := by
  rw [evFn_eq2 (cx := cx0) (c := c17) rfl Try.func17 c17_eq (of_decide_eq_true (by kernel_rfl)) d17 (of_decide_eq_true (by kernel_rfl))]
  exact congrArg (fin Try.prog [.cell 6 40, .tmp 7]) (F17_eq (evFn cx0 ext0 n) n bx.length a0 a1 a2 bx)

/-- scupper/ptrs.may -/
def kp22 : Option (List Nat) := some [0, 2]
noncomputable def c22 : Code := Try.f22.body.getD .skip
noncomputable def F22 (E : FnA) (n n0 : Nat) (a0 : AV) (bx : Bx) : Option (Ex × S) :=
  (pv bx (binA Try.prog .geq 3 a0 (.v (Go.Value.int Go.IntKind.i64 0)))).bind fun r1 =>
  (gsel true r1.2 (some (a0, r1.2)) r1.1).bind fun r2 =>
  (gsel true r2.2 (pv r2.2 (binA Try.prog .lss 3 r2.1 (.v (Go.Value.int Go.IntKind.i64 27)))) r1.1).bind fun r3 =>
  (pv r3.2 (pickA r1.1 r3.1 (.v (Go.Value.bool false)))).bind fun r4 =>
  some (.ret, ⟨[(2, r4.1), (2, (.v (Go.Value.bool false))), (0, a0)], r4.2⟩)
theorem c22_eq : Try.f22.body = some c22 := by kernel_rfl
theorem d22 : drawsOk Try.prog md0 c22 = true := by kernel_rfl
theorem F22_eq (E : FnA) (n n0 : Nat) (a0 : AV) (bx : Bx) : evK Try.prog md0 E 9 kp22 n n0 c22 ⟨[(0, a0)], bx⟩ (fun s => some (.normal, s)) (fun i s => some (.exit i, s)) = F22 E n n0 a0 bx := by kernel_rfl

theorem E22 (n : Nat) (a0 : AV) (bx : Bx) : evFn cx0 ext0 (n + 1) 22 [a0] bx = fin Try.prog [.tmp 2] (F22 (evFn cx0 ext0 n) n bx.length a0 bx) := by
  rw [evFn_eq2 (cx := cx0) (c := c22) rfl Try.func22 c22_eq (of_decide_eq_true (by kernel_rfl)) d22 (of_decide_eq_true (by kernel_rfl))]
  exact congrArg (fin Try.prog [.tmp 2]) (F22_eq (evFn cx0 ext0 n) n bx.length a0 bx)

/-- scupper/num.Get16 -/
def kp23 : Option (List Nat) := some [0, 1, 4, 5, 6, 7]
noncomputable def c23 : Code := Try.f23.body.getD .skip
noncomputable def F23 (E : FnA) (n n0 : Nat) (a0 a1 : AV) (bx : Bx) : Option (Ex × S) :=
  (callA E md0 bx 28 [a0, a1, (.v (Go.Value.int Go.IntKind.i64 2))]).bind fun r1 =>
  (pv r1.2 (tupA r1.1 0)).bind fun r2 =>
  (pv r2.2 (tupA r1.1 1)).bind fun r3 =>
  (convA Try.prog r3.2 58 41 r2.1).bind fun r4 =>
  some (.ret, ⟨[(5, r3.1), (4, r4.1), (7, r3.1), (6, r2.1), (5, (.v (Go.Value.int Go.IntKind.i64 0))), (4, (.v (Go.Value.int Go.IntKind.u16 0))), (0, a0), (1, a1)], r4.2⟩)
theorem c23_eq : Try.f23.body = some c23 := by kernel_rfl
theorem d23 : drawsOk Try.prog md0 c23 = true := by kernel_rfl
theorem F23_eq (E : FnA) (n n0 : Nat) (a0 a1 : AV) (bx : Bx) : evK Try.prog md0 E 17 kp23 n n0 c23 ⟨[(0, a0), (1, a1)], bx⟩ (fun s => some (.normal, s)) (fun i s => some (.exit i, s)) = F23 E n n0 a0 a1 bx := by kernel_rfl

theorem E23 (n : Nat) (a0 a1 : AV) (bx : Bx) : evFn cx0 ext0 (n + 1) 23 [a0, a1] bx = fin Try.prog [.tmp 4, .tmp 5] (F23 (evFn cx0 ext0 n) n bx.length a0 a1 bx) := by
  rw [evFn_eq2 (cx := cx0) (c := c23) rfl Try.func23 c23_eq (of_decide_eq_true (by kernel_rfl)) d23 (of_decide_eq_true (by kernel_rfl))]
  exact congrArg (fin Try.prog [.tmp 4, .tmp 5]) (F23_eq (evFn cx0 ext0 n) n bx.length a0 a1 bx)

/-- scupper/scupperref01.Get16 -/
def kp24 : Option (List Nat) := some [0, 1, 4, 5, 6, 7]
noncomputable def c24 : Code := Try.f24.body.getD .skip
noncomputable def F24 (E : FnA) (n n0 : Nat) (a0 a1 : AV) (bx : Bx) : Option (Ex × S) :=
  (callA E md0 bx 29 [a0, a1, (.v (Go.Value.int Go.IntKind.i64 2))]).bind fun r1 =>
  (pv r1.2 (tupA r1.1 0)).bind fun r2 =>
  (pv r2.2 (tupA r1.1 1)).bind fun r3 =>
  (convA Try.prog r3.2 50 41 r2.1).bind fun r4 =>
  some (.ret, ⟨[(5, r3.1), (4, r4.1), (7, r3.1), (6, r2.1), (5, (.v (Go.Value.int Go.IntKind.i64 0))), (4, (.v (Go.Value.int Go.IntKind.u16 0))), (0, a0), (1, a1)], r4.2⟩)
theorem c24_eq : Try.f24.body = some c24 := by kernel_rfl
theorem d24 : drawsOk Try.prog md0 c24 = true := by kernel_rfl
theorem F24_eq (E : FnA) (n n0 : Nat) (a0 a1 : AV) (bx : Bx) : evK Try.prog md0 E 17 kp24 n n0 c24 ⟨[(0, a0), (1, a1)], bx⟩ (fun s => some (.normal, s)) (fun i s => some (.exit i, s)) = F24 E n n0 a0 a1 bx := by kernel_rfl

theorem E24 (n : Nat) (a0 a1 : AV) (bx : Bx) : evFn cx0 ext0 (n + 1) 24 [a0, a1] bx = fin Try.prog [.tmp 4, .tmp 5] (F24 (evFn cx0 ext0 n) n bx.length a0 a1 bx) := by
  rw [evFn_eq2 (cx := cx0) (c := c24) rfl Try.func24 c24_eq (of_decide_eq_true (by kernel_rfl)) d24 (of_decide_eq_true (by kernel_rfl))]
  exact congrArg (fin Try.prog [.tmp 4, .tmp 5]) (F24_eq (evFn cx0 ext0 n) n bx.length a0 a1 bx)

/-- scupper/num.Put16 -/
def kp25 : Option (List Nat) := some [0, 2]
noncomputable def c25 : Code := Try.f25.body.getD .skip
noncomputable def F25 (E : FnA) (n n0 : Nat) (a0 : AV) (bx : Bx) : Option (Ex × S) :=
  (allocA Try.prog bx 53).bind fun r1 =>
  (convA Try.prog r1.2 41 5 a0).bind fun r2 =>
  (pv r2.2 (binA Try.prog .shr 41 a0 (.v (Go.Value.int Go.IntKind.u64 8)))).bind fun r3 =>
  (convA Try.prog r3.2 41 5 r3.1).bind fun r4 =>
  (pv r4.2 (buildA Try.prog 53 [(0, r2.1), (1, r4.1)])).bind fun r5 =>
  (stA Try.prog 53 r5.2 r1.1 r5.1).bind fun r6 =>
  some (.ret, ⟨[(2, r1.1), (0, a0)], r6.2⟩)
theorem c25_eq : Try.f25.body = some c25 := by kernel_rfl
theorem d25 : drawsOk Try.prog md0 c25 = true := by kernel_rfl
theorem F25_eq (E : FnA) (n n0 : Nat) (a0 : AV) (bx : Bx) : evK Try.prog md0 E 9 kp25 n n0 c25 ⟨[(0, a0)], bx⟩ (fun s => some (.normal, s)) (fun i s => some (.exit i, s)) = F25 E n n0 a0 bx := by kernel_rfl

theorem E25 (n : Nat) (a0 : AV) (bx : Bx) : evFn cx0 ext0 (n + 1) 25 [a0] bx = fin Try.prog [.cell 2 53] (F25 (evFn cx0 ext0 n) n bx.length a0 bx) := by
  rw [evFn_eq2 (cx := cx0) (c := c25) rfl Try.func25 c25_eq (of_decide_eq_true (by kernel_rfl)) d25 (of_decide_eq_true (by kernel_rfl))]
  exact congrArg (fin Try.prog [.cell 2 53]) (F25_eq (evFn cx0 ext0 n) n bx.length a0 bx)

/-- scupper/num.get -/
def kp28 : Option (List Nat) := some [0, 1, 2, 6, 7, 8, 9, 25, 26, 27, 28]
noncomputable def c28 : Code := Try.f28.body.getD .skip
noncomputable def F28 (E : FnA) (n n0 : Nat) (a0 a1 a2 : AV) (bx : Bx) : Option (Ex × S) :=
  (pv bx (binA Try.prog .lss 3 a1 (.v (Go.Value.int Go.IntKind.i64 0)))).bind fun r1 =>
  (gsel false r1.2 (some (a1, r1.2)) r1.1).bind fun r2 =>
  (gsel false r2.2 (some (a0, r2.2)) r1.1).bind fun r3 =>
  (gsel false r3.2 (pv r3.2 (lenA Try.prog 52 r3.1)) r1.1).bind fun r4 =>
  (gsel false r4.2 (pv r4.2 (binA Try.prog .gtr 3 r2.1 r4.1)) r1.1).bind fun r5 =>
  (pv r5.2 (pickA r1.1 (.v (Go.Value.bool true)) r5.1)).bind fun r6 =>
  (gsel false r6.2 (some (a0, r6.2)) r6.1).bind fun r7 =>
  (gsel false r7.2 (pv r7.2 (lenA Try.prog 52 r7.1)) r6.1).bind fun r8 =>
  (gsel false r8.2 (some (a1, r8.2)) r6.1).bind fun r9 =>
  (gsel false r9.2 (pv r9.2 (binA Try.prog .sub 3 r8.1 r9.1)) r6.1).bind fun r10 =>
  (gsel false r10.2 (some (a2, r10.2)) r6.1).bind fun r11 =>
  (gsel false r11.2 (pv r11.2 (binA Try.prog .lss 3 r10.1 r11.1)) r6.1).bind fun r12 =>
  (pv r12.2 (pickA r6.1 (.v (Go.Value.bool true)) r12.1)).bind fun r13 =>
  condA r13.1 (some (.ret, ⟨[(7, (.v (Go.Value.int Go.IntKind.i64 7))), (6, (.v (Go.Value.int Go.IntKind.u32 0))), (25, r13.1), (7, (.v (Go.Value.int Go.IntKind.i64 0))), (6, (.v (Go.Value.int Go.IntKind.u32 0))), (0, a0), (1, a1), (2, a2)], r13.2⟩)) (exitA (iter ⟨[(27, (.v (Go.Value.int Go.IntKind.i64 0))), (26, a2), (8, (.v (Go.Value.int Go.IntKind.u32 0))), (25, r13.1), (7, (.v (Go.Value.int Go.IntKind.i64 0))), (6, (.v (Go.Value.int Go.IntKind.u32 0))), (0, a0), (1, a1), (2, a2)], r13.2⟩ (fun s13 => (pv s13.bx (binA Try.prog .lss 3 (get s13.env 27) (get s13.env 26))).bind fun r17 =>
  condA r17.1 ((pv r17.2 (binA Try.prog .add 3 (get (prune kp28 (prune kp28 s13.env)) 1) (get (prune kp28 s13.env) 27))).bind fun r18 =>
  (pv r18.2 (indexAddrA Try.prog 52 (get (prune kp28 (prune kp28 s13.env)) 0) r18.1)).bind fun r19 =>
  (pv r19.2 (loadA Try.prog 5 r19.2 r19.1)).bind fun r20 =>
  (convA Try.prog r20.2 5 58 r20.1).bind fun r21 =>
  (pv r21.2 (binA Try.prog .mul 3 (.v (Go.Value.int Go.IntKind.i64 8)) (get (prune kp28 s13.env) 27))).bind fun r22 =>
  (pv r22.2 (binA Try.prog .shl 58 r21.1 r22.1)).bind fun r23 =>
  (pv r23.2 (binA Try.prog .or 58 (get (prune kp28 (prune kp28 s13.env)) 8) r23.1)).bind fun r24 =>
  (pv r24.2 (binA Try.prog .add 3 (get (prune kp28 (prune kp28 (prune kp28 s13.env))) 27) (.v (Go.Value.int Go.IntKind.i64 1)))).bind fun r25 =>
  some (.normal, ⟨((27, r25.1) :: (8, r24.1) :: (9, (get (prune kp28 s13.env) 27)) :: (28, r17.1) :: (prune kp28 (prune kp28 (prune kp28 (prune kp28 s13.env))))), r25.2⟩)) (some (.exit 0, ⟨((28, r17.1) :: (prune kp28 s13.env)), r17.2⟩))) n ⟨[(27, (.v (Go.Value.int Go.IntKind.i64 0))), (26, a2), (8, (.v (Go.Value.int Go.IntKind.u32 0))), (25, r13.1), (7, (.v (Go.Value.int Go.IntKind.i64 0))), (6, (.v (Go.Value.int Go.IntKind.u32 0))), (0, a0), (1, a1), (2, a2)], r13.2⟩) (fun s14 => some (.ret, ⟨((7, (.v (Go.Value.int Go.IntKind.i64 0))) :: (6, (get s14.env 8)) :: (prune kp28 s14.env)), s14.bx⟩)) (fun i15 s14 => if i15 = 0 then some (.ret, ⟨((7, (.v (Go.Value.int Go.IntKind.i64 0))) :: (6, (get s14.env 8)) :: (prune kp28 s14.env)), s14.bx⟩) else some (.exit i15, ⟨s14.env, s14.bx⟩)))
theorem c28_eq : Try.f28.body = some c28 := by kernel_rfl
theorem d28 : drawsOk Try.prog md0 c28 = true := by kernel_rfl
theorem F28_eq (E : FnA) (n n0 : Nat) (a0 a1 a2 : AV) (bx : Bx) : evK Try.prog md0 E 44 kp28 n n0 c28 ⟨[(0, a0), (1, a1), (2, a2)], bx⟩ (fun s => some (.normal, s)) (fun i s => some (.exit i, s)) = F28 E n n0 a0 a1 a2 bx := by kernel_rfl

theorem E28 (n : Nat) (a0 a1 a2 : AV) (bx : Bx) : evFn cx0 ext0 (n + 1) 28 [a0, a1, a2] bx = fin Try.prog [.tmp 6, .tmp 7] (F28 (evFn cx0 ext0 n) n bx.length a0 a1 a2 bx) := by
  rw [evFn_eq2 (cx := cx0) (c := c28) rfl Try.func28 c28_eq (of_decide_eq_true (by kernel_rfl)) d28 (of_decide_eq_true (by kernel_rfl))]
  exact congrArg (fin Try.prog [.tmp 6, .tmp 7]) (F28_eq (evFn cx0 ext0 n) n bx.length a0 a1 a2 bx)

end Go.Sy
