/-
  What the functions under this seat's laws read as, in the reader's words; no conditions.
-/
import Derived.Test.YtmngededdpcieaaSyStep
import Derived.Test.YtmngededdpcieaaProg
import Derived.KernelRfl
namespace Go.Sy
open Go.Proofs
def kpT : FuncId → Option (List Nat)
  | 3 => some [0, 1, 2]
  | 4 => some [0, 1, 2, 5, 6, 7, 8, 9, 10, 11, 12, 13]
  | 5 => some [0, 1, 2, 3, 4, 5]
  | 6 => some [0, 1, 2, 3, 4, 6, 8, 9, 10, 11, 12, 13, 14, 15, 16, 17, 18, 19, 20, 21, 22]
  | 7 => some [0, 1, 2, 3, 4, 6, 8, 9, 10, 11, 12, 13, 15, 17, 18, 19, 21, 40, 42, 74]
  | 8 => some [0, 1, 2, 3, 5, 6, 11, 17, 29]
  | 9 => some [0, 1, 2, 5, 8, 32]
  | 10 => some [0, 1, 2, 3, 4]
  | 11 => some [0, 1, 4, 5, 6, 7, 8, 9, 22]
  | 12 => some [0, 1, 4, 5, 6, 7, 8, 9, 25]
  | 13 => some [0, 1, 2, 4, 5, 6, 7, 8, 16]
  | 14 => some [0, 1, 4]
  | 15 => some [0, 1, 2, 4, 5, 6, 7, 15]
  | 16 => some [0, 1, 2, 3, 4, 5, 7, 8, 39, 40, 41]
  | 17 => some [0, 1, 2, 3, 4, 15]
  | 18 => some [0, 1, 2, 3, 4, 6, 28, 29, 30]
  | 19 => some [0, 2, 3, 4, 19]
  | 20 => some [0, 1, 2, 4, 5, 8]
  | 21 => some [0, 1, 2, 4, 5, 11]
  | 22 => some [0, 1, 2, 3, 5, 6, 7, 8, 11]
  | 23 => some [0, 1, 2, 3, 5, 6, 7, 8, 9, 10, 16, 22]
  | 24 => some [0, 2, 3, 4, 5, 8, 11, 14, 25]
  | 25 => some [0, 2]
  | 26 => some [0, 2, 3, 4, 5, 6, 14]
  | 27 => some [0, 2, 3, 4, 5, 6]
  | 28 => some [0, 2]
  | 29 => some [0, 2]
  | 30 => some [0, 2]
  | 31 => some [0, 1, 4, 5]
  | 32 => some [0, 1, 4, 5, 6, 7]
  | 33 => some [0, 1, 4, 5, 6, 7]
  | 34 => some [0, 1, 4, 5, 6, 7]
  | 35 => some [0, 1, 2, 6, 7, 8, 9, 25, 26, 27, 28]
  | 36 => some [0, 1, 2, 6, 7, 8, 9, 25, 29]
  | _ => none
def mdT : FuncId → FuncId → Md
  | _ => md0
noncomputable def cx0 : Cx := { P := Try.prog, md := mdT, kp := kpT }
def ext0 : FnA := fun _ _ _ => none
theorem ext0_ok (f : FuncId) (args : List AV) (bx : Bx) (r : AV) (bx' : Bx) (h : ext0 f args bx = some (r, bx')) : Sound cx0.P f args bx r bx' := by simp [ext0] at h
/-- scupper/scupperlaw10.InodeChecks -/
def kp_l10_InodeChecks : Option (List Nat) := some [0, 1, 2]
noncomputable def c_l10_InodeChecks : Code := Try.f3.body.getD .skip
noncomputable def F_l10_InodeChecks (E : FnA) (_n _n0 : Nat) (a0 : AV) (bx : Bx) : Option (Ex × S) :=
  (boxA bx a0).bind fun r1 =>
  (pv r1.2 (loadA Try.prog 26 r1.2 r1.1)).bind fun r2 =>
  (callA E md0 r2.2 8 [r2.1]).bind fun r3 =>
  (pv r3.2 (loadA Try.prog 26 r3.2 r1.1)).bind fun r4 =>
  (callA E md0 r4.2 9 [r4.1]).bind fun r5 =>
  (pv r5.2 (binA Try.prog .eql 27 r3.1 r5.1)).bind fun r6 =>
  (gsel true r6.2 (callA E md0 r6.2 10 []) r6.1).bind fun r7 =>
  (pv r7.2 (pickA r6.1 r7.1 (.v (Go.Value.bool false)))).bind fun r8 =>
  some (.ret, ⟨[(2, r8.1), (2, (.v (Go.Value.bool false))), (1, r1.1), (0, a0)], r8.2⟩)
theorem c_l10_InodeChecks_eq : Try.f3.body = some c_l10_InodeChecks := by kernel_rfl
theorem d_l10_InodeChecks : drawsOk Try.prog md0 c_l10_InodeChecks = true := by kernel_rfl
theorem F_l10_InodeChecks_eq (E : FnA) (n n0 : Nat) (a0 : AV) (bx : Bx) : evK Try.prog md0 E 11 kp_l10_InodeChecks n n0 c_l10_InodeChecks ⟨[(0, a0)], bx⟩ (fun s => some (.normal, s)) (fun i s => some (.exit i, s)) = F_l10_InodeChecks E n n0 a0 bx := by kernel_rfl

theorem E_l10_InodeChecks (n : Nat) (a0 : AV) (bx : Bx) : evFn cx0 ext0 (n + 1) 3 [a0] bx = fin Try.prog [.tmp 2] (F_l10_InodeChecks (evFn cx0 ext0 n) n bx.length a0 bx) := by
  rw [evFn_eq2 (cx := cx0) (c := c_l10_InodeChecks) rfl Try.func3 c_l10_InodeChecks_eq (of_decide_eq_true (by kernel_rfl)) d_l10_InodeChecks (of_decide_eq_true (by kernel_rfl))]
  exact congrArg (fin Try.prog [.tmp 2]) (F_l10_InodeChecks_eq (evFn cx0 ext0 n) n bx.length a0 bx)

/-- scupper/scupperlaw10.InodeFields -/
def kp_l10_InodeFields : Option (List Nat) := some [0, 1, 2, 5, 6, 7, 8, 9, 10, 11, 12, 13]
noncomputable def c_l10_InodeFields : Code := Try.f4.body.getD .skip
noncomputable def F_l10_InodeFields (E : FnA) (_n _n0 : Nat) (a0 a1 a2 : AV) (bx : Bx) : Option (Ex × S) :=
  (boxA bx a2).bind fun r1 =>
  (callA E md0 r1.2 11 [a0, a1]).bind fun r2 =>
  (pv r2.2 (tupA r2.1 0)).bind fun r3 =>
  (pv r3.2 (tupA r2.1 1)).bind fun r4 =>
  (pv r4.2 (tupA r2.1 2)).bind fun r5 =>
  (callA E md0 r5.2 12 [a0, a1]).bind fun r6 =>
  (pv r6.2 (tupA r6.1 0)).bind fun r7 =>
  (pv r7.2 (tupA r6.1 1)).bind fun r8 =>
  (pv r8.2 (tupA r6.1 2)).bind fun r9 =>
  (pv r9.2 (loadA Try.prog 26 r9.2 r1.1)).bind fun r10 =>
  (callA E md0 r10.2 13 [r10.1, a1]).bind fun r11 =>
  (pv r11.2 (binA Try.prog .eql 3 r3.1 r7.1)).bind fun r12 =>
  (gsel true r12.2 (some (r4.1, r12.2)) r12.1).bind fun r13 =>
  (gsel true r13.2 (some (r8.1, r13.2)) r12.1).bind fun r14 =>
  (gsel true r14.2 (pv r14.2 (binA Try.prog .eql 3 r13.1 r14.1)) r12.1).bind fun r15 =>
  (pv r15.2 (pickA r12.1 r15.1 (.v (Go.Value.bool false)))).bind fun r16 =>
  (gsel true r16.2 (some (r5.1, r16.2)) r16.1).bind fun r17 =>
  (gsel true r17.2 (some (r9.1, r17.2)) r16.1).bind fun r18 =>
  (gsel true r18.2 (pv r18.2 (binA Try.prog .eql 27 r17.1 r18.1)) r16.1).bind fun r19 =>
  (pv r19.2 (pickA r16.1 r19.1 (.v (Go.Value.bool false)))).bind fun r20 =>
  (gsel true r20.2 (some (r11.1, r20.2)) r20.1).bind fun r21 =>
  (gsel true r21.2 (pv r21.2 (loadA Try.prog 26 r21.2 r1.1)) r20.1).bind fun r22 =>
  (gsel true r22.2 (some (a1, r22.2)) r20.1).bind fun r23 =>
  (gsel true r23.2 (callA E md0 r23.2 15 [r22.1, r23.1]) r20.1).bind fun r24 =>
  (gsel true r24.2 (callA E md0 r24.2 14 [r21.1, r24.1]) r20.1).bind fun r25 =>
  (pv r25.2 (pickA r20.1 r25.1 (.v (Go.Value.bool false)))).bind fun r26 =>
  (gsel true r26.2 (some (r5.1, r26.2)) r26.1).bind fun r27 =>
  (gsel true r27.2 (pv r27.2 (binA Try.prog .neq 27 r27.1 (.v (Go.Value.int Go.IntKind.i64 0)))) r26.1).bind fun r28 =>
  (gsel true r28.2 (some (r28.1, r28.2)) r26.1).bind fun r29 =>
  (gsel false r29.2 (some (r11.1, r29.2)) r29.1).bind fun r30 =>
  (gsel false r30.2 (pv r30.2 (lenA Try.prog 35 r30.1)) r29.1).bind fun r31 =>
  (gsel false r31.2 (some (r4.1, r31.2)) r29.1).bind fun r32 =>
  (gsel false r32.2 (pv r32.2 (binA Try.prog .eql 3 r31.1 r32.1)) r29.1).bind fun r33 =>
  (gsel true r33.2 (pv r33.2 (pickA r29.1 (.v (Go.Value.bool true)) r33.1)) r26.1).bind fun r34 =>
  (pv r34.2 (pickA r26.1 r34.1 (.v (Go.Value.bool false)))).bind fun r35 =>
  (gsel true r35.2 (callA E md0 r35.2 10 []) r35.1).bind fun r36 =>
  (pv r36.2 (pickA r35.1 r36.1 (.v (Go.Value.bool false)))).bind fun r37 =>
  some (.ret, ⟨[(6, r37.1), (13, r11.1), (12, r9.1), (11, r8.1), (10, r7.1), (9, r5.1), (8, r4.1), (7, r3.1), (6, (.v (Go.Value.bool false))), (5, r1.1), (0, a0), (1, a1), (2, a2)], r37.2⟩)
theorem c_l10_InodeFields_eq : Try.f4.body = some c_l10_InodeFields := by kernel_rfl
theorem d_l10_InodeFields : drawsOk Try.prog md0 c_l10_InodeFields = true := by kernel_rfl
theorem F_l10_InodeFields_eq (E : FnA) (n n0 : Nat) (a0 a1 a2 : AV) (bx : Bx) : evK Try.prog md0 E 64 kp_l10_InodeFields n n0 c_l10_InodeFields ⟨[(0, a0), (1, a1), (2, a2)], bx⟩ (fun s => some (.normal, s)) (fun i s => some (.exit i, s)) = F_l10_InodeFields E n n0 a0 a1 a2 bx := by kernel_rfl

theorem E_l10_InodeFields (n : Nat) (a0 a1 a2 : AV) (bx : Bx) : evFn cx0 ext0 (n + 1) 4 [a0, a1, a2] bx = fin Try.prog [.tmp 6] (F_l10_InodeFields (evFn cx0 ext0 n) n bx.length a0 a1 a2 bx) := by
  rw [evFn_eq2 (cx := cx0) (c := c_l10_InodeFields) rfl Try.func4 c_l10_InodeFields_eq (of_decide_eq_true (by kernel_rfl)) d_l10_InodeFields (of_decide_eq_true (by kernel_rfl))]
  exact congrArg (fin Try.prog [.tmp 6]) (F_l10_InodeFields_eq (evFn cx0 ext0 n) n bx.length a0 a1 a2 bx)

/-- scupper/scupperlaw10.InodePuts -/
def kp_l10_InodePuts : Option (List Nat) := some [0, 1, 2, 3, 4, 5]
noncomputable def c_l10_InodePuts : Code := Try.f5.body.getD .skip
noncomputable def F_l10_InodePuts (E : FnA) (_n _n0 : Nat) (a0 a1 : AV) (bx : Bx) : Option (Ex × S) :=
  (boxA bx a0).bind fun r1 =>
  (boxA r1.2 a1).bind fun r2 =>
  (pv r2.2 (loadA Try.prog 26 r2.2 r1.1)).bind fun r3 =>
  (callA E md0 r3.2 16 [r3.1]).bind fun r4 =>
  (allocA Try.prog r4.2 40).bind fun r5 =>
  (stA Try.prog 40 r5.2 r5.1 r4.1).bind fun r6 =>
  (pv r6.2 (loadA Try.prog 26 r6.2 r1.1)).bind fun r7 =>
  (callA E md0 r7.2 8 [r7.1]).bind fun r8 =>
  (pv r8.2 (loadA Try.prog 26 r8.2 r1.1)).bind fun r9 =>
  (callA E md0 r9.2 9 [r9.1]).bind fun r10 =>
  (pv r10.2 (binA Try.prog .eql 27 r8.1 r10.1)).bind fun r11 =>
  (gsel true r11.2 (pv r11.2 (sliceA Try.prog r11.2 40 r5.1 none none none)) r11.1).bind fun r12 =>
  (gsel true r12.2 (pv r12.2 (loadA Try.prog 26 r12.2 r1.1)) r11.1).bind fun r13 =>
  (gsel true r13.2 (callA E md0 r13.2 17 [r13.1]) r11.1).bind fun r14 =>
  (gsel true r14.2 (callA E md0 r14.2 14 [r12.1, r14.1]) r11.1).bind fun r15 =>
  (pv r15.2 (pickA r11.1 r15.1 (.v (Go.Value.bool false)))).bind fun r16 =>
  (gsel true r16.2 (pv r16.2 (loadA Try.prog 40 r16.2 r2.1)) r16.1).bind fun r17 =>
  (gsel true r17.2 (callA E md0 r17.2 18 [r17.1]) r16.1).bind fun r18 =>
  (gsel true r18.2 (pv r18.2 (sliceA Try.prog r18.2 40 r2.1 none none none)) r16.1).bind fun r19 =>
  (gsel true r19.2 (callA E md0 r19.2 19 [r19.1]) r16.1).bind fun r20 =>
  (gsel true r20.2 (pv r20.2 (binA Try.prog .eql 26 r18.1 r20.1)) r16.1).bind fun r21 =>
  (pv r21.2 (pickA r16.1 r21.1 (.v (Go.Value.bool false)))).bind fun r22 =>
  (gsel true r22.2 (callA E md0 r22.2 10 []) r22.1).bind fun r23 =>
  (pv r23.2 (pickA r22.1 r23.1 (.v (Go.Value.bool false)))).bind fun r24 =>
  some (.ret, ⟨[(4, r24.1), (5, r5.1), (4, (.v (Go.Value.bool false))), (3, r2.1), (2, r1.1), (0, a0), (1, a1)], r24.2⟩)
theorem c_l10_InodePuts_eq : Try.f5.body = some c_l10_InodePuts := by kernel_rfl
theorem d_l10_InodePuts : drawsOk Try.prog md0 c_l10_InodePuts = true := by kernel_rfl
theorem F_l10_InodePuts_eq (E : FnA) (n n0 : Nat) (a0 a1 : AV) (bx : Bx) : evK Try.prog md0 E 29 kp_l10_InodePuts n n0 c_l10_InodePuts ⟨[(0, a0), (1, a1)], bx⟩ (fun s => some (.normal, s)) (fun i s => some (.exit i, s)) = F_l10_InodePuts E n n0 a0 a1 bx := by kernel_rfl

theorem E_l10_InodePuts (n : Nat) (a0 a1 : AV) (bx : Bx) : evFn cx0 ext0 (n + 1) 5 [a0, a1] bx = fin Try.prog [.tmp 4] (F_l10_InodePuts (evFn cx0 ext0 n) n bx.length a0 a1 bx) := by
  rw [evFn_eq2 (cx := cx0) (c := c_l10_InodePuts) rfl Try.func5 c_l10_InodePuts_eq (of_decide_eq_true (by kernel_rfl)) d_l10_InodePuts (of_decide_eq_true (by kernel_rfl))]
  exact congrArg (fin Try.prog [.tmp 4]) (F_l10_InodePuts_eq (evFn cx0 ext0 n) n bx.length a0 a1 bx)

/-- scupper/scupperlaw10.InodeLoads -/
def kp_l10_InodeLoads : Option (List Nat) := some [0, 1, 2, 3, 4, 6, 8, 9, 10, 11, 12, 13, 14, 15, 16, 17, 18, 19, 20, 21, 22]
noncomputable def c_l10_InodeLoads : Code := Try.f6.body.getD .skip
noncomputable def F_l10_InodeLoads (E : FnA) (_n _n0 : Nat) (a0 a1 a2 a3 : AV) (bx : Bx) : Option (Ex × S) :=
  (boxA bx a0).bind fun r1 =>
  (boxA r1.2 a2).bind fun r2 =>
  (pv r2.2 (loadA Try.prog 47 r2.2 r1.1)).bind fun r3 =>
  (callA E md0 r3.2 20 [r3.1, a1]).bind fun r4 =>
  (pv r4.2 (tupA r4.1 0)).bind fun r5 =>
  (pv r5.2 (tupA r4.1 1)).bind fun r6 =>
  (allocA Try.prog r6.2 26).bind fun r7 =>
  (stA Try.prog 26 r7.2 r7.1 r5.1).bind fun r8 =>
  (pv r8.2 (loadA Try.prog 47 r8.2 r1.1)).bind fun r9 =>
  (callA E md0 r9.2 21 [r9.1, a1]).bind fun r10 =>
  (pv r10.2 (tupA r10.1 0)).bind fun r11 =>
  (pv r11.2 (tupA r10.1 1)).bind fun r12 =>
  (allocA Try.prog r12.2 26).bind fun r13 =>
  (stA Try.prog 26 r13.2 r13.1 r11.1).bind fun r14 =>
  (pv r14.2 (loadA Try.prog 47 r14.2 r1.1)).bind fun r15 =>
  (pv r15.2 (loadA Try.prog 26 r15.2 r2.1)).bind fun r16 =>
  (callA E md0 r16.2 22 [r15.1, a1, r16.1]).bind fun r17 =>
  (pv r17.2 (tupA r17.1 0)).bind fun r18 =>
  (pv r18.2 (tupA r17.1 1)).bind fun r19 =>
  (allocA Try.prog r19.2 47).bind fun r20 =>
  (stA Try.prog 47 r20.2 r20.1 r18.1).bind fun r21 =>
  (pv r21.2 (loadA Try.prog 47 r21.2 r1.1)).bind fun r22 =>
  (pv r22.2 (loadA Try.prog 26 r22.2 r2.1)).bind fun r23 =>
  (callA E md0 r23.2 23 [r22.1, a1, r23.1]).bind fun r24 =>
  (pv r24.2 (tupA r24.1 0)).bind fun r25 =>
  (pv r25.2 (tupA r24.1 1)).bind fun r26 =>
  (allocA Try.prog r26.2 47).bind fun r27 =>
  (stA Try.prog 47 r27.2 r27.1 r25.1).bind fun r28 =>
  (callA E md0 r28.2 11 [a1, a3]).bind fun r29 =>
  (pv r29.2 (tupA r29.1 0)).bind fun r30 =>
  (pv r30.2 (tupA r29.1 1)).bind fun r31 =>
  (pv r31.2 (tupA r29.1 2)).bind fun r32 =>
  (callA E md0 r32.2 12 [a1, a3]).bind fun r33 =>
  (pv r33.2 (tupA r33.1 0)).bind fun r34 =>
  (pv r34.2 (tupA r33.1 1)).bind fun r35 =>
  (pv r35.2 (tupA r33.1 2)).bind fun r36 =>
  (pv r36.2 (loadA Try.prog 26 r36.2 r7.1)).bind fun r37 =>
  (pv r37.2 (loadA Try.prog 26 r37.2 r13.1)).bind fun r38 =>
  (pv r38.2 (binA Try.prog .eql 26 r37.1 r38.1)).bind fun r39 =>
  (gsel true r39.2 (some (r6.1, r39.2)) r39.1).bind fun r40 =>
  (gsel true r40.2 (some (r12.1, r40.2)) r39.1).bind fun r41 =>
  (gsel true r41.2 (pv r41.2 (binA Try.prog .eql 27 r40.1 r41.1)) r39.1).bind fun r42 =>
  (pv r42.2 (pickA r39.1 r42.1 (.v (Go.Value.bool false)))).bind fun r43 =>
  (gsel true r43.2 (pv r43.2 (loadA Try.prog 47 r43.2 r20.1)) r43.1).bind fun r44 =>
  (gsel true r44.2 (pv r44.2 (loadA Try.prog 47 r44.2 r27.1)) r43.1).bind fun r45 =>
  (gsel true r45.2 (pv r45.2 (binA Try.prog .eql 47 r44.1 r45.1)) r43.1).bind fun r46 =>
  (pv r46.2 (pickA r43.1 r46.1 (.v (Go.Value.bool false)))).bind fun r47 =>
  (gsel true r47.2 (some (r19.1, r47.2)) r47.1).bind fun r48 =>
  (gsel true r48.2 (some (r26.1, r48.2)) r47.1).bind fun r49 =>
  (gsel true r49.2 (pv r49.2 (binA Try.prog .eql 27 r48.1 r49.1)) r47.1).bind fun r50 =>
  (pv r50.2 (pickA r47.1 r50.1 (.v (Go.Value.bool false)))).bind fun r51 =>
  (gsel true r51.2 (some (r30.1, r51.2)) r51.1).bind fun r52 =>
  (gsel true r52.2 (some (r34.1, r52.2)) r51.1).bind fun r53 =>
  (gsel true r53.2 (pv r53.2 (binA Try.prog .eql 3 r52.1 r53.1)) r51.1).bind fun r54 =>
  (pv r54.2 (pickA r51.1 r54.1 (.v (Go.Value.bool false)))).bind fun r55 =>
  (gsel true r55.2 (some (r31.1, r55.2)) r55.1).bind fun r56 =>
  (gsel true r56.2 (some (r35.1, r56.2)) r55.1).bind fun r57 =>
  (gsel true r57.2 (pv r57.2 (binA Try.prog .eql 3 r56.1 r57.1)) r55.1).bind fun r58 =>
  (pv r58.2 (pickA r55.1 r58.1 (.v (Go.Value.bool false)))).bind fun r59 =>
  (gsel true r59.2 (some (r32.1, r59.2)) r59.1).bind fun r60 =>
  (gsel true r60.2 (some (r36.1, r60.2)) r59.1).bind fun r61 =>
  (gsel true r61.2 (pv r61.2 (binA Try.prog .eql 27 r60.1 r61.1)) r59.1).bind fun r62 =>
  (pv r62.2 (pickA r59.1 r62.1 (.v (Go.Value.bool false)))).bind fun r63 =>
  (gsel true r63.2 (pv r63.2 (loadA Try.prog 26 r63.2 r2.1)) r63.1).bind fun r64 =>
  (gsel true r64.2 (some (a3, r64.2)) r63.1).bind fun r65 =>
  (gsel true r65.2 (callA E md0 r65.2 13 [r64.1, r65.1]) r63.1).bind fun r66 =>
  (gsel true r66.2 (pv r66.2 (loadA Try.prog 26 r66.2 r2.1)) r63.1).bind fun r67 =>
  (gsel true r67.2 (some (a3, r67.2)) r63.1).bind fun r68 =>
  (gsel true r68.2 (callA E md0 r68.2 15 [r67.1, r68.1]) r63.1).bind fun r69 =>
  (gsel true r69.2 (callA E md0 r69.2 14 [r66.1, r69.1]) r63.1).bind fun r70 =>
  (pv r70.2 (pickA r63.1 r70.1 (.v (Go.Value.bool false)))).bind fun r71 =>
  (gsel true r71.2 (callA E md0 r71.2 10 []) r71.1).bind fun r72 =>
  (pv r72.2 (pickA r71.1 r72.1 (.v (Go.Value.bool false)))).bind fun r73 =>
  some (.ret, ⟨[(8, r73.1), (22, r36.1), (21, r35.1), (20, r34.1), (19, r32.1), (18, r31.1), (17, r30.1), (16, r26.1), (15, r27.1), (14, r19.1), (13, r20.1), (12, r12.1), (11, r13.1), (10, r6.1), (9, r7.1), (8, (.v (Go.Value.bool false))), (6, r2.1), (4, r1.1), (0, a0), (1, a1), (2, a2), (3, a3)], r73.2⟩)
theorem c_l10_InodeLoads_eq : Try.f6.body = some c_l10_InodeLoads := by kernel_rfl
theorem d_l10_InodeLoads : drawsOk Try.prog md0 c_l10_InodeLoads = true := by kernel_rfl
theorem F_l10_InodeLoads_eq (E : FnA) (n n0 : Nat) (a0 a1 a2 a3 : AV) (bx : Bx) : evK Try.prog md0 E 108 kp_l10_InodeLoads n n0 c_l10_InodeLoads ⟨[(0, a0), (1, a1), (2, a2), (3, a3)], bx⟩ (fun s => some (.normal, s)) (fun i s => some (.exit i, s)) = F_l10_InodeLoads E n n0 a0 a1 a2 a3 bx := by kernel_rfl

theorem E_l10_InodeLoads (n : Nat) (a0 a1 a2 a3 : AV) (bx : Bx) : evFn cx0 ext0 (n + 1) 6 [a0, a1, a2, a3] bx = fin Try.prog [.tmp 8] (F_l10_InodeLoads (evFn cx0 ext0 n) n bx.length a0 a1 a2 a3 bx) := by
  rw [evFn_eq2 (cx := cx0) (c := c_l10_InodeLoads) rfl Try.func6 c_l10_InodeLoads_eq (of_decide_eq_true (by kernel_rfl)) d_l10_InodeLoads (of_decide_eq_true (by kernel_rfl))]
  exact congrArg (fin Try.prog [.tmp 8]) (F_l10_InodeLoads_eq (evFn cx0 ext0 n) n bx.length a0 a1 a2 a3 bx)

/-- scupper/scupperlaw10.InodeBack -/
def kp_l10_InodeBack : Option (List Nat) := some [0, 1, 2, 3, 4, 6, 8, 9, 10, 11, 12, 13, 15, 17, 18, 19, 21, 40, 42, 74]
noncomputable def c_l10_InodeBack : Code := Try.f7.body.getD .skip
noncomputable def L_l10_InodeBack_0 (E : FnA) (_n _n0 : Nat) (s : S) : Option (Ex × S) :=
  (pv s.bx (binA Try.prog .lss 3 (get s.env 12) (.v (Go.Value.int Go.IntKind.i64 3)))).bind fun r49 =>
  condA r49.1 ((pv r49.2 (loadA Try.prog 47 r49.2 (get (prune kp_l10_InodeBack s.env) 4))).bind fun r50 =>
  (callA E md0 r50.2 20 [r50.1, (get (prune kp_l10_InodeBack s.env) 12)]).bind fun r51 =>
  (pv r51.2 (tupA r51.1 0)).bind fun r52 =>
  (pv r52.2 (tupA r51.1 1)).bind fun r53 =>
  (allocA Try.prog r53.2 26).bind fun r54 =>
  (stA Try.prog 26 r54.2 r54.1 r52.1).bind fun r55 =>
  (pv r55.2 (loadA Try.prog 47 r55.2 (get (prune kp_l10_InodeBack (prune kp_l10_InodeBack s.env)) 10))).bind fun r56 =>
  (callA E md0 r56.2 20 [r56.1, (get (prune kp_l10_InodeBack (prune kp_l10_InodeBack s.env)) 12)]).bind fun r57 =>
  (pv r57.2 (tupA r57.1 0)).bind fun r58 =>
  (pv r58.2 (tupA r57.1 1)).bind fun r59 =>
  (allocA Try.prog r59.2 26).bind fun r60 =>
  (stA Try.prog 26 r60.2 r60.1 r58.1).bind fun r61 =>
  (pv r61.2 (binA Try.prog .eql 3 (get (prune kp_l10_InodeBack (prune kp_l10_InodeBack (prune kp_l10_InodeBack s.env))) 12) (get (prune kp_l10_InodeBack (prune kp_l10_InodeBack (prune kp_l10_InodeBack s.env))) 9))).bind fun r62 =>
  (gsel true r62.2 (pv r62.2 (loadA Try.prog 26 r62.2 r60.1)) r62.1).bind fun r63 =>
  (gsel true r63.2 (pv r63.2 (loadA Try.prog 26 r63.2 (get (prune kp_l10_InodeBack (prune kp_l10_InodeBack (prune kp_l10_InodeBack s.env))) 6))) r62.1).bind fun r64 =>
  (gsel true r64.2 (pv r64.2 (binA Try.prog .neq 26 r63.1 r64.1)) r62.1).bind fun r65 =>
  (pv r65.2 (pickA r62.1 r65.1 (.v (Go.Value.bool false)))).bind fun r66 =>
  (gsel false r66.2 (some ((get (prune kp_l10_InodeBack (prune kp_l10_InodeBack (prune kp_l10_InodeBack s.env))) 12), r66.2)) r66.1).bind fun r67 =>
  (gsel false r67.2 (some ((get (prune kp_l10_InodeBack (prune kp_l10_InodeBack (prune kp_l10_InodeBack s.env))) 9), r67.2)) r66.1).bind fun r68 =>
  (gsel false r68.2 (pv r68.2 (binA Try.prog .neq 3 r67.1 r68.1)) r66.1).bind fun r69 =>
  (gsel false r69.2 (some (r69.1, r69.2)) r66.1).bind fun r70 =>
  (gsel true r70.2 (pv r70.2 (loadA Try.prog 26 r70.2 r60.1)) r70.1).bind fun r71 =>
  (gsel true r71.2 (pv r71.2 (loadA Try.prog 26 r71.2 r54.1)) r70.1).bind fun r72 =>
  (gsel true r72.2 (pv r72.2 (binA Try.prog .neq 26 r71.1 r72.1)) r70.1).bind fun r73 =>
  (gsel false r73.2 (pv r73.2 (pickA r70.1 r73.1 (.v (Go.Value.bool false)))) r66.1).bind fun r74 =>
  (pv r74.2 (pickA r66.1 (.v (Go.Value.bool true)) r74.1)).bind fun r75 =>
  condA r75.1 (some (.ret, ⟨((8, (.v (Go.Value.bool false))) :: (74, r75.1) :: (15, r60.1) :: (13, r54.1) :: (42, r49.1) :: (prune kp_l10_InodeBack (prune kp_l10_InodeBack (prune kp_l10_InodeBack (prune kp_l10_InodeBack (prune kp_l10_InodeBack s.env)))))), r75.2⟩)) ((pv r75.2 (binA Try.prog .add 3 (get (prune kp_l10_InodeBack (prune kp_l10_InodeBack (prune kp_l10_InodeBack (prune kp_l10_InodeBack s.env)))) 12) (.v (Go.Value.int Go.IntKind.i64 1)))).bind fun r76 =>
  some (.normal, ⟨((12, r76.1) :: (74, r75.1) :: (15, r60.1) :: (13, r54.1) :: (42, r49.1) :: (prune kp_l10_InodeBack (prune kp_l10_InodeBack (prune kp_l10_InodeBack (prune kp_l10_InodeBack (prune kp_l10_InodeBack s.env)))))), r76.2⟩))) (some (.exit 0, ⟨((42, r49.1) :: (prune kp_l10_InodeBack s.env)), r49.2⟩))
noncomputable def B_l10_InodeBack_0 (E : FnA) (_n _n0 : Nat) (x12 x40 x11 x10 x9 x21 x8 x6 x4 x0 x1 x2 x3 : AV) (y : Bx) : Option (Ex × S) :=
  (pv y (binA Try.prog .lss 3 x12 (.v (Go.Value.int Go.IntKind.i64 3)))).bind fun r21 =>
  condA r21.1 ((pv r21.2 (loadA Try.prog 47 r21.2 x4)).bind fun r22 =>
  (callA E md0 r22.2 20 [r22.1, x12]).bind fun r23 =>
  (pv r23.2 (tupA r23.1 0)).bind fun r24 =>
  (pv r24.2 (tupA r23.1 1)).bind fun r25 =>
  (allocA Try.prog r25.2 26).bind fun r26 =>
  (stA Try.prog 26 r26.2 r26.1 r24.1).bind fun r27 =>
  (pv r27.2 (loadA Try.prog 47 r27.2 x10)).bind fun r28 =>
  (callA E md0 r28.2 20 [r28.1, x12]).bind fun r29 =>
  (pv r29.2 (tupA r29.1 0)).bind fun r30 =>
  (pv r30.2 (tupA r29.1 1)).bind fun r31 =>
  (allocA Try.prog r31.2 26).bind fun r32 =>
  (stA Try.prog 26 r32.2 r32.1 r30.1).bind fun r33 =>
  (pv r33.2 (binA Try.prog .eql 3 x12 x9)).bind fun r34 =>
  (gsel true r34.2 (pv r34.2 (loadA Try.prog 26 r34.2 r32.1)) r34.1).bind fun r35 =>
  (gsel true r35.2 (pv r35.2 (loadA Try.prog 26 r35.2 x6)) r34.1).bind fun r36 =>
  (gsel true r36.2 (pv r36.2 (binA Try.prog .neq 26 r35.1 r36.1)) r34.1).bind fun r37 =>
  (pv r37.2 (pickA r34.1 r37.1 (.v (Go.Value.bool false)))).bind fun r38 =>
  (gsel false r38.2 (some (x12, r38.2)) r38.1).bind fun r39 =>
  (gsel false r39.2 (some (x9, r39.2)) r38.1).bind fun r40 =>
  (gsel false r40.2 (pv r40.2 (binA Try.prog .neq 3 r39.1 r40.1)) r38.1).bind fun r41 =>
  (gsel false r41.2 (some (r41.1, r41.2)) r38.1).bind fun r42 =>
  (gsel true r42.2 (pv r42.2 (loadA Try.prog 26 r42.2 r32.1)) r42.1).bind fun r43 =>
  (gsel true r43.2 (pv r43.2 (loadA Try.prog 26 r43.2 r26.1)) r42.1).bind fun r44 =>
  (gsel true r44.2 (pv r44.2 (binA Try.prog .neq 26 r43.1 r44.1)) r42.1).bind fun r45 =>
  (gsel false r45.2 (pv r45.2 (pickA r42.1 r45.1 (.v (Go.Value.bool false)))) r38.1).bind fun r46 =>
  (pv r46.2 (pickA r38.1 (.v (Go.Value.bool true)) r46.1)).bind fun r47 =>
  condA r47.1 (some (.ret, ⟨[(8, (.v (Go.Value.bool false))), (74, r47.1), (15, r32.1), (13, r26.1), (42, r21.1), (12, x12), (40, x40), (11, x11), (10, x10), (9, x9), (21, x21), (8, x8), (6, x6), (4, x4), (0, x0), (1, x1), (2, x2), (3, x3)], r47.2⟩)) ((pv r47.2 (binA Try.prog .add 3 x12 (.v (Go.Value.int Go.IntKind.i64 1)))).bind fun r48 =>
  some (.normal, ⟨[(12, r48.1), (74, r47.1), (15, r32.1), (13, r26.1), (42, r21.1), (12, x12), (40, x40), (11, x11), (10, x10), (9, x9), (21, x21), (8, x8), (6, x6), (4, x4), (0, x0), (1, x1), (2, x2), (3, x3)], r48.2⟩))) (some (.exit 0, ⟨[(42, r21.1), (12, x12), (40, x40), (11, x11), (10, x10), (9, x9), (21, x21), (8, x8), (6, x6), (4, x4), (0, x0), (1, x1), (2, x2), (3, x3)], r21.2⟩))
theorem L_l10_InodeBack_0_lit {E : FnA} {n n0 : Nat} {x12 x40 x11 x10 x9 x21 x8 x6 x4 x0 x1 x2 x3 : AV} {y : Bx} {Q : Ex → S → Prop} (h : Ends (B_l10_InodeBack_0 E n n0 x12 x40 x11 x10 x9 x21 x8 x6 x4 x0 x1 x2 x3 y) Q) : Ends (L_l10_InodeBack_0 E n n0 ⟨[(12, x12), (40, x40), (11, x11), (10, x10), (9, x9), (21, x21), (8, x8), (6, x6), (4, x4), (0, x0), (1, x1), (2, x2), (3, x3)], y⟩) Q := by
  rw [show L_l10_InodeBack_0 E n n0 ⟨[(12, x12), (40, x40), (11, x11), (10, x10), (9, x9), (21, x21), (8, x8), (6, x6), (4, x4), (0, x0), (1, x1), (2, x2), (3, x3)], y⟩ = B_l10_InodeBack_0 E n n0 x12 x40 x11 x10 x9 x21 x8 x6 x4 x0 x1 x2 x3 y by kernel_rfl]
  exact h
noncomputable def K_l10_InodeBack_0 (E : FnA) (_n _n0 : Nat) (t : S) : Option (Ex × S) :=
  (pv t.bx (binA Try.prog .rem 5 (get t.env 3) (.v (Go.Value.int Go.IntKind.u8 10)))).bind fun r96 =>
  (convA Try.prog r96.2 5 33 r96.1).bind fun r97 =>
  (callA E md0 r97.2 11 [(get t.env 9), r97.1]).bind fun r98 =>
  (pv r98.2 (tupA r98.1 0)).bind fun r99 =>
  (pv r99.2 (tupA r98.1 1)).bind fun r100 =>
  (pv r100.2 (tupA r98.1 2)).bind fun r101 =>
  (pv r101.2 (binA Try.prog .eql 27 r101.1 (.v (Go.Value.int Go.IntKind.i64 0)))).bind fun r102 =>
  (gsel true r102.2 (some (r99.1, r102.2)) r102.1).bind fun r103 =>
  (gsel true r103.2 (some (r99.1, r103.2)) r102.1).bind fun r104 =>
  (gsel true r104.2 (some (r100.1, r104.2)) r102.1).bind fun r105 =>
  (gsel true r105.2 (pv r105.2 (binA Try.prog .add 3 r104.1 r105.1)) r102.1).bind fun r106 =>
  (gsel true r106.2 (pv r106.2 (sliceA Try.prog r106.2 47 (get (prune kp_l10_InodeBack t.env) 10) (some r103.1) (some r106.1) none)) r102.1).bind fun r107 =>
  (gsel true r107.2 (pv r107.2 (loadA Try.prog 26 r107.2 (get (prune kp_l10_InodeBack t.env) 6))) r102.1).bind fun r108 =>
  (gsel true r108.2 (some ((get (prune kp_l10_InodeBack t.env) 3), r108.2)) r102.1).bind fun r109 =>
  (gsel true r109.2 (pv r109.2 (binA Try.prog .rem 5 r109.1 (.v (Go.Value.int Go.IntKind.u8 10)))) r102.1).bind fun r110 =>
  (gsel true r110.2 (convA Try.prog r110.2 5 33 r110.1) r102.1).bind fun r111 =>
  (gsel true r111.2 (callA E md0 r111.2 13 [r108.1, r111.1]) r102.1).bind fun r112 =>
  (gsel true r112.2 (callA E md0 r112.2 14 [r107.1, r112.1]) r102.1).bind fun r113 =>
  (pv r113.2 (pickA r102.1 r113.1 (.v (Go.Value.bool false)))).bind fun r114 =>
  some (.ret, ⟨((8, r114.1) :: (19, r101.1) :: (18, r100.1) :: (17, r99.1) :: (prune kp_l10_InodeBack (prune kp_l10_InodeBack t.env))), r114.2⟩)
noncomputable def X_l10_InodeBack_0 (E : FnA) (_n _n0 : Nat) (i : Nat) (t : S) : Option (Ex × S) :=
  if i = 0 then (pv t.bx (binA Try.prog .rem 5 (get t.env 3) (.v (Go.Value.int Go.IntKind.u8 10)))).bind fun r77 =>
  (convA Try.prog r77.2 5 33 r77.1).bind fun r78 =>
  (callA E md0 r78.2 11 [(get t.env 9), r78.1]).bind fun r79 =>
  (pv r79.2 (tupA r79.1 0)).bind fun r80 =>
  (pv r80.2 (tupA r79.1 1)).bind fun r81 =>
  (pv r81.2 (tupA r79.1 2)).bind fun r82 =>
  (pv r82.2 (binA Try.prog .eql 27 r82.1 (.v (Go.Value.int Go.IntKind.i64 0)))).bind fun r83 =>
  (gsel true r83.2 (some (r80.1, r83.2)) r83.1).bind fun r84 =>
  (gsel true r84.2 (some (r80.1, r84.2)) r83.1).bind fun r85 =>
  (gsel true r85.2 (some (r81.1, r85.2)) r83.1).bind fun r86 =>
  (gsel true r86.2 (pv r86.2 (binA Try.prog .add 3 r85.1 r86.1)) r83.1).bind fun r87 =>
  (gsel true r87.2 (pv r87.2 (sliceA Try.prog r87.2 47 (get (prune kp_l10_InodeBack t.env) 10) (some r84.1) (some r87.1) none)) r83.1).bind fun r88 =>
  (gsel true r88.2 (pv r88.2 (loadA Try.prog 26 r88.2 (get (prune kp_l10_InodeBack t.env) 6))) r83.1).bind fun r89 =>
  (gsel true r89.2 (some ((get (prune kp_l10_InodeBack t.env) 3), r89.2)) r83.1).bind fun r90 =>
  (gsel true r90.2 (pv r90.2 (binA Try.prog .rem 5 r90.1 (.v (Go.Value.int Go.IntKind.u8 10)))) r83.1).bind fun r91 =>
  (gsel true r91.2 (convA Try.prog r91.2 5 33 r91.1) r83.1).bind fun r92 =>
  (gsel true r92.2 (callA E md0 r92.2 13 [r89.1, r92.1]) r83.1).bind fun r93 =>
  (gsel true r93.2 (callA E md0 r93.2 14 [r88.1, r93.1]) r83.1).bind fun r94 =>
  (pv r94.2 (pickA r83.1 r94.1 (.v (Go.Value.bool false)))).bind fun r95 =>
  some (.ret, ⟨((8, r95.1) :: (19, r82.1) :: (18, r81.1) :: (17, r80.1) :: (prune kp_l10_InodeBack (prune kp_l10_InodeBack t.env))), r95.2⟩) else some (.exit i, ⟨t.env, t.bx⟩)
noncomputable def X_l10_InodeBack_0_0 (E : FnA) (_n _n0 : Nat) (x42 x12 x40 x11 x10 x9 x21 x8 x6 x4 x0 x1 x2 x3 : AV) (y : Bx) : Option (Ex × S) :=
  (pv y (binA Try.prog .rem 5 x3 (.v (Go.Value.int Go.IntKind.u8 10)))).bind fun r115 =>
  (convA Try.prog r115.2 5 33 r115.1).bind fun r116 =>
  (callA E md0 r116.2 11 [x9, r116.1]).bind fun r117 =>
  (pv r117.2 (tupA r117.1 0)).bind fun r118 =>
  (pv r118.2 (tupA r117.1 1)).bind fun r119 =>
  (pv r119.2 (tupA r117.1 2)).bind fun r120 =>
  (pv r120.2 (binA Try.prog .eql 27 r120.1 (.v (Go.Value.int Go.IntKind.i64 0)))).bind fun r121 =>
  (gsel true r121.2 (some (r118.1, r121.2)) r121.1).bind fun r122 =>
  (gsel true r122.2 (some (r118.1, r122.2)) r121.1).bind fun r123 =>
  (gsel true r123.2 (some (r119.1, r123.2)) r121.1).bind fun r124 =>
  (gsel true r124.2 (pv r124.2 (binA Try.prog .add 3 r123.1 r124.1)) r121.1).bind fun r125 =>
  (gsel true r125.2 (pv r125.2 (sliceA Try.prog r125.2 47 x10 (some r122.1) (some r125.1) none)) r121.1).bind fun r126 =>
  (gsel true r126.2 (pv r126.2 (loadA Try.prog 26 r126.2 x6)) r121.1).bind fun r127 =>
  (gsel true r127.2 (some (x3, r127.2)) r121.1).bind fun r128 =>
  (gsel true r128.2 (pv r128.2 (binA Try.prog .rem 5 r128.1 (.v (Go.Value.int Go.IntKind.u8 10)))) r121.1).bind fun r129 =>
  (gsel true r129.2 (convA Try.prog r129.2 5 33 r129.1) r121.1).bind fun r130 =>
  (gsel true r130.2 (callA E md0 r130.2 13 [r127.1, r130.1]) r121.1).bind fun r131 =>
  (gsel true r131.2 (callA E md0 r131.2 14 [r126.1, r131.1]) r121.1).bind fun r132 =>
  (pv r132.2 (pickA r121.1 r132.1 (.v (Go.Value.bool false)))).bind fun r133 =>
  some (.ret, ⟨[(8, r133.1), (19, r120.1), (18, r119.1), (17, r118.1), (42, x42), (12, x12), (40, x40), (11, x11), (10, x10), (9, x9), (21, x21), (8, x8), (6, x6), (4, x4), (0, x0), (1, x1), (2, x2), (3, x3)], r133.2⟩)
theorem X_l10_InodeBack_0_0_lit {E : FnA} {n n0 : Nat} {x42 x12 x40 x11 x10 x9 x21 x8 x6 x4 x0 x1 x2 x3 : AV} {y : Bx} {Q : Ex → S → Prop} (h : Ends (X_l10_InodeBack_0_0 E n n0 x42 x12 x40 x11 x10 x9 x21 x8 x6 x4 x0 x1 x2 x3 y) Q) : Ends (X_l10_InodeBack_0 E n n0 0 ⟨[(42, x42), (12, x12), (40, x40), (11, x11), (10, x10), (9, x9), (21, x21), (8, x8), (6, x6), (4, x4), (0, x0), (1, x1), (2, x2), (3, x3)], y⟩) Q := by
  rw [show X_l10_InodeBack_0 E n n0 0 ⟨[(42, x42), (12, x12), (40, x40), (11, x11), (10, x10), (9, x9), (21, x21), (8, x8), (6, x6), (4, x4), (0, x0), (1, x1), (2, x2), (3, x3)], y⟩ = X_l10_InodeBack_0_0 E n n0 x42 x12 x40 x11 x10 x9 x21 x8 x6 x4 x0 x1 x2 x3 y by kernel_rfl]
  exact h
noncomputable def F_l10_InodeBack (E : FnA) (n n0 : Nat) (a0 a1 a2 a3 : AV) (bx : Bx) : Option (Ex × S) :=
  (boxA bx a0).bind fun r1 =>
  (boxA r1.2 a2).bind fun r2 =>
  (callA E md0 r2.2 10 []).bind fun r3 =>
  (pv r3.2 (unA .not r3.1)).bind fun r4 =>
  condA r4.1 (some (.ret, ⟨[(8, (.v (Go.Value.bool false))), (21, r4.1), (8, (.v (Go.Value.bool false))), (6, r2.1), (4, r1.1), (0, a0), (1, a1), (2, a2), (3, a3)], r4.2⟩)) ((pv r4.2 (binA Try.prog .rem 5 a1 (.v (Go.Value.int Go.IntKind.u8 3)))).bind fun r5 =>
  (convA Try.prog r5.2 5 3 r5.1).bind fun r6 =>
  (pv r6.2 (loadA Try.prog 47 r6.2 r1.1)).bind fun r7 =>
  (pv r7.2 (loadA Try.prog 26 r7.2 r2.1)).bind fun r8 =>
  (callA E md0 r8.2 22 [r7.1, r6.1, r8.1]).bind fun r9 =>
  (pv r9.2 (tupA r9.1 0)).bind fun r10 =>
  (pv r10.2 (tupA r9.1 1)).bind fun r11 =>
  (allocA Try.prog r11.2 47).bind fun r12 =>
  (stA Try.prog 47 r12.2 r12.1 r10.1).bind fun r13 =>
  (pv r13.2 (binA Try.prog .neq 27 r11.1 (.v (Go.Value.int Go.IntKind.i64 0)))).bind fun r14 =>
  (gsel false r14.2 (pv r14.2 (loadA Try.prog 26 r14.2 r2.1)) r14.1).bind fun r15 =>
  (gsel false r15.2 (callA E md0 r15.2 16 [r15.1]) r14.1).bind fun r16 =>
  (gsel false r16.2 (callA E md0 r16.2 18 [r16.1]) r14.1).bind fun r17 =>
  (gsel false r17.2 (pv r17.2 (loadA Try.prog 26 r17.2 r2.1)) r14.1).bind fun r18 =>
  (gsel false r18.2 (pv r18.2 (binA Try.prog .neq 26 r17.1 r18.1)) r14.1).bind fun r19 =>
  (pv r19.2 (pickA r14.1 (.v (Go.Value.bool true)) r19.1)).bind fun r20 =>
  condA r20.1 (some (.ret, ⟨[(8, (.v (Go.Value.bool false))), (40, r20.1), (11, r11.1), (10, r12.1), (9, r6.1), (21, r4.1), (8, (.v (Go.Value.bool false))), (6, r2.1), (4, r1.1), (0, a0), (1, a1), (2, a2), (3, a3)], r20.2⟩)) (exitA (iter ⟨[(12, (.v (Go.Value.int Go.IntKind.i64 0))), (40, r20.1), (11, r11.1), (10, r12.1), (9, r6.1), (21, r4.1), (8, (.v (Go.Value.bool false))), (6, r2.1), (4, r1.1), (0, a0), (1, a1), (2, a2), (3, a3)], r20.2⟩ (L_l10_InodeBack_0 E n n0) n ⟨[(12, (.v (Go.Value.int Go.IntKind.i64 0))), (40, r20.1), (11, r11.1), (10, r12.1), (9, r6.1), (21, r4.1), (8, (.v (Go.Value.bool false))), (6, r2.1), (4, r1.1), (0, a0), (1, a1), (2, a2), (3, a3)], r20.2⟩) (K_l10_InodeBack_0 E n n0) (X_l10_InodeBack_0 E n n0)))
theorem c_l10_InodeBack_eq : Try.f7.body = some c_l10_InodeBack := by kernel_rfl
theorem d_l10_InodeBack : drawsOk Try.prog md0 c_l10_InodeBack = true := by kernel_rfl
theorem F_l10_InodeBack_eq (E : FnA) (n n0 : Nat) (a0 a1 a2 a3 : AV) (bx : Bx) : evK Try.prog md0 E 99 kp_l10_InodeBack n n0 c_l10_InodeBack ⟨[(0, a0), (1, a1), (2, a2), (3, a3)], bx⟩ (fun s => some (.normal, s)) (fun i s => some (.exit i, s)) = F_l10_InodeBack E n n0 a0 a1 a2 a3 bx := by kernel_rfl

theorem E_l10_InodeBack (n : Nat) (a0 a1 a2 a3 : AV) (bx : Bx) : evFn cx0 ext0 (n + 1) 7 [a0, a1, a2, a3] bx = fin Try.prog [.tmp 8] (F_l10_InodeBack (evFn cx0 ext0 n) n bx.length a0 a1 a2 a3 bx) := by
  rw [evFn_eq2 (cx := cx0) (c := c_l10_InodeBack) rfl Try.func7 c_l10_InodeBack_eq (of_decide_eq_true (by kernel_rfl)) d_l10_InodeBack (of_decide_eq_true (by kernel_rfl))]
  exact congrArg (fin Try.prog [.tmp 8]) (F_l10_InodeBack_eq (evFn cx0 ext0 n) n bx.length a0 a1 a2 a3 bx)

/-- scupper/inode.Check -/
def kp_inode_Check : Option (List Nat) := some [0, 1, 2, 3, 5, 6, 11, 17, 29]
noncomputable def c_inode_Check : Code := Try.f8.body.getD .skip
noncomputable def F_inode_Check (_E : FnA) (_n _n0 : Nat) (a0 : AV) (bx : Bx) : Option (Ex × S) :=
  (boxA bx a0).bind fun r1 =>
  (pv r1.2 (fieldAddrA Try.prog 26 r1.1 0)).bind fun r2 =>
  (pv r2.2 (loadA Try.prog 5 r2.2 r2.1)).bind fun r3 =>
  (pv r3.2 (binA Try.prog .eql 5 r3.1 (.v (Go.Value.int Go.IntKind.u8 0)))).bind fun r4 =>
  condA r4.1 ((pv r4.2 (loadA Try.prog 26 r4.2 r1.1)).bind fun r5 =>
  (pv r5.2 (buildA Try.prog 26 [])).bind fun r6 =>
  (pv r6.2 (binA Try.prog .neq 26 r5.1 r6.1)).bind fun r7 =>
  (gsel false r7.2 (pv r7.2 (fieldAddrA Try.prog 26 r1.1 1)) r7.1).bind fun r8 =>
  (gsel false r8.2 (pv r8.2 (loadA Try.prog 5 r8.2 r8.1)) r7.1).bind fun r9 =>
  (gsel false r9.2 (pv r9.2 (binA Try.prog .gtr 5 r9.1 (.v (Go.Value.int Go.IntKind.u8 200)))) r7.1).bind fun r10 =>
  (pv r10.2 (pickA r7.1 (.v (Go.Value.bool true)) r10.1)).bind fun r11 =>
  (gsel false r11.2 (pv r11.2 (fieldAddrA Try.prog 26 r1.1 2)) r11.1).bind fun r12 =>
  (gsel false r12.2 (pv r12.2 (loadA Try.prog 22 r12.2 r12.1)) r11.1).bind fun r13 =>
  (gsel false r13.2 (pv r13.2 (binA Try.prog .gtr 22 r13.1 (.v (Go.Value.int Go.IntKind.u32 48640)))) r11.1).bind fun r14 =>
  (pv r14.2 (pickA r11.1 (.v (Go.Value.bool true)) r14.1)).bind fun r15 =>
  condA r15.1 (some (.ret, ⟨[(2, (.v (Go.Value.int Go.IntKind.i64 2))), (29, r15.1), (3, r7.1), (6, r4.1), (5, r3.1), (3, (.v (Go.Value.bool false))), (2, (.v (Go.Value.int Go.IntKind.i64 0))), (1, r1.1), (0, a0)], r15.2⟩)) (some (.ret, ⟨[(2, (.v (Go.Value.int Go.IntKind.i64 0))), (29, r15.1), (3, r7.1), (6, r4.1), (5, r3.1), (3, (.v (Go.Value.bool false))), (2, (.v (Go.Value.int Go.IntKind.i64 0))), (1, r1.1), (0, a0)], r15.2⟩))) ((pv r4.2 (binA Try.prog .eql 5 r3.1 (.v (Go.Value.int Go.IntKind.u8 2)))).bind fun r16 =>
  condA r16.1 ((pv r16.2 (fieldAddrA Try.prog 26 r1.1 2)).bind fun r17 =>
  (pv r17.2 (loadA Try.prog 22 r17.2 r17.1)).bind fun r18 =>
  (pv r18.2 (binA Try.prog .rem 22 r18.1 (.v (Go.Value.int Go.IntKind.u32 64)))).bind fun r19 =>
  (pv r19.2 (binA Try.prog .neq 22 r19.1 (.v (Go.Value.int Go.IntKind.u32 0)))).bind fun r20 =>
  (gsel false r20.2 (pv r20.2 (fieldAddrA Try.prog 26 r1.1 1)) r20.1).bind fun r21 =>
  (gsel false r21.2 (pv r21.2 (loadA Try.prog 5 r21.2 r21.1)) r20.1).bind fun r22 =>
  (gsel false r22.2 (pv r22.2 (binA Try.prog .gtr 5 r22.1 (.v (Go.Value.int Go.IntKind.u8 200)))) r20.1).bind fun r23 =>
  (pv r23.2 (pickA r20.1 (.v (Go.Value.bool true)) r23.1)).bind fun r24 =>
  (gsel false r24.2 (pv r24.2 (fieldAddrA Try.prog 26 r1.1 2)) r24.1).bind fun r25 =>
  (gsel false r25.2 (pv r25.2 (loadA Try.prog 22 r25.2 r25.1)) r24.1).bind fun r26 =>
  (gsel false r26.2 (pv r26.2 (binA Try.prog .gtr 22 r26.1 (.v (Go.Value.int Go.IntKind.u32 48640)))) r24.1).bind fun r27 =>
  (pv r27.2 (pickA r24.1 (.v (Go.Value.bool true)) r27.1)).bind fun r28 =>
  condA r28.1 (some (.ret, ⟨[(2, (.v (Go.Value.int Go.IntKind.i64 2))), (29, r28.1), (3, r20.1), (11, r16.1), (6, r4.1), (5, r3.1), (3, (.v (Go.Value.bool false))), (2, (.v (Go.Value.int Go.IntKind.i64 0))), (1, r1.1), (0, a0)], r28.2⟩)) (some (.ret, ⟨[(2, (.v (Go.Value.int Go.IntKind.i64 0))), (29, r28.1), (3, r20.1), (11, r16.1), (6, r4.1), (5, r3.1), (3, (.v (Go.Value.bool false))), (2, (.v (Go.Value.int Go.IntKind.i64 0))), (1, r1.1), (0, a0)], r28.2⟩))) ((pv r16.2 (binA Try.prog .eql 5 r3.1 (.v (Go.Value.int Go.IntKind.u8 1)))).bind fun r29 =>
  condA r29.1 ((gsel false r29.2 (pv r29.2 (fieldAddrA Try.prog 26 r1.1 1)) (.v (Go.Value.bool false))).bind fun r30 =>
  (gsel false r30.2 (pv r30.2 (loadA Try.prog 5 r30.2 r30.1)) (.v (Go.Value.bool false))).bind fun r31 =>
  (gsel false r31.2 (pv r31.2 (binA Try.prog .gtr 5 r31.1 (.v (Go.Value.int Go.IntKind.u8 200)))) (.v (Go.Value.bool false))).bind fun r32 =>
  (pv r32.2 (pickA (.v (Go.Value.bool false)) (.v (Go.Value.bool true)) r32.1)).bind fun r33 =>
  (gsel false r33.2 (pv r33.2 (fieldAddrA Try.prog 26 r1.1 2)) r33.1).bind fun r34 =>
  (gsel false r34.2 (pv r34.2 (loadA Try.prog 22 r34.2 r34.1)) r33.1).bind fun r35 =>
  (gsel false r35.2 (pv r35.2 (binA Try.prog .gtr 22 r35.1 (.v (Go.Value.int Go.IntKind.u32 48640)))) r33.1).bind fun r36 =>
  (pv r36.2 (pickA r33.1 (.v (Go.Value.bool true)) r36.1)).bind fun r37 =>
  condA r37.1 (some (.ret, ⟨[(2, (.v (Go.Value.int Go.IntKind.i64 2))), (29, r37.1), (17, r29.1), (11, r16.1), (6, r4.1), (5, r3.1), (3, (.v (Go.Value.bool false))), (2, (.v (Go.Value.int Go.IntKind.i64 0))), (1, r1.1), (0, a0)], r37.2⟩)) (some (.ret, ⟨[(2, (.v (Go.Value.int Go.IntKind.i64 0))), (29, r37.1), (17, r29.1), (11, r16.1), (6, r4.1), (5, r3.1), (3, (.v (Go.Value.bool false))), (2, (.v (Go.Value.int Go.IntKind.i64 0))), (1, r1.1), (0, a0)], r37.2⟩))) ((gsel false r29.2 (pv r29.2 (fieldAddrA Try.prog 26 r1.1 1)) (.v (Go.Value.bool true))).bind fun r38 =>
  (gsel false r38.2 (pv r38.2 (loadA Try.prog 5 r38.2 r38.1)) (.v (Go.Value.bool true))).bind fun r39 =>
  (gsel false r39.2 (pv r39.2 (binA Try.prog .gtr 5 r39.1 (.v (Go.Value.int Go.IntKind.u8 200)))) (.v (Go.Value.bool true))).bind fun r40 =>
  (pv r40.2 (pickA (.v (Go.Value.bool true)) (.v (Go.Value.bool true)) r40.1)).bind fun r41 =>
  (gsel false r41.2 (pv r41.2 (fieldAddrA Try.prog 26 r1.1 2)) r41.1).bind fun r42 =>
  (gsel false r42.2 (pv r42.2 (loadA Try.prog 22 r42.2 r42.1)) r41.1).bind fun r43 =>
  (gsel false r43.2 (pv r43.2 (binA Try.prog .gtr 22 r43.1 (.v (Go.Value.int Go.IntKind.u32 48640)))) r41.1).bind fun r44 =>
  (pv r44.2 (pickA r41.1 (.v (Go.Value.bool true)) r44.1)).bind fun r45 =>
  condA r45.1 (some (.ret, ⟨[(2, (.v (Go.Value.int Go.IntKind.i64 2))), (29, r45.1), (3, (.v (Go.Value.bool true))), (17, r29.1), (11, r16.1), (6, r4.1), (5, r3.1), (3, (.v (Go.Value.bool false))), (2, (.v (Go.Value.int Go.IntKind.i64 0))), (1, r1.1), (0, a0)], r45.2⟩)) (some (.ret, ⟨[(2, (.v (Go.Value.int Go.IntKind.i64 0))), (29, r45.1), (3, (.v (Go.Value.bool true))), (17, r29.1), (11, r16.1), (6, r4.1), (5, r3.1), (3, (.v (Go.Value.bool false))), (2, (.v (Go.Value.int Go.IntKind.i64 0))), (1, r1.1), (0, a0)], r45.2⟩)))))
theorem c_inode_Check_eq : Try.f8.body = some c_inode_Check := by kernel_rfl
theorem d_inode_Check : drawsOk Try.prog md0 c_inode_Check = true := by kernel_rfl
theorem F_inode_Check_eq (E : FnA) (n n0 : Nat) (a0 : AV) (bx : Bx) : evK Try.prog md0 E 30 kp_inode_Check n n0 c_inode_Check ⟨[(0, a0)], bx⟩ (fun s => some (.normal, s)) (fun i s => some (.exit i, s)) = F_inode_Check E n n0 a0 bx := by kernel_rfl

theorem E_inode_Check (n : Nat) (a0 : AV) (bx : Bx) : evFn cx0 ext0 (n + 1) 8 [a0] bx = fin Try.prog [.tmp 2] (F_inode_Check (evFn cx0 ext0 n) n bx.length a0 bx) := by
  rw [evFn_eq2 (cx := cx0) (c := c_inode_Check) rfl Try.func8 c_inode_Check_eq (of_decide_eq_true (by kernel_rfl)) d_inode_Check (of_decide_eq_true (by kernel_rfl))]
  exact congrArg (fin Try.prog [.tmp 2]) (F_inode_Check_eq (evFn cx0 ext0 n) n bx.length a0 bx)

/-- scupper/scupperref10.Check -/
def kp_r10_Check : Option (List Nat) := some [0, 1, 2, 5, 8, 32]
noncomputable def c_r10_Check : Code := Try.f9.body.getD .skip
noncomputable def F_r10_Check (_E : FnA) (_n _n0 : Nat) (a0 : AV) (bx : Bx) : Option (Ex × S) :=
  (boxA bx a0).bind fun r1 =>
  (pv r1.2 (fieldAddrA Try.prog 26 r1.1 0)).bind fun r2 =>
  (pv r2.2 (loadA Try.prog 5 r2.2 r2.1)).bind fun r3 =>
  (pv r3.2 (binA Try.prog .eql 5 r3.1 (.v (Go.Value.int Go.IntKind.u8 0)))).bind fun r4 =>
  condA r4.1 ((pv r4.2 (loadA Try.prog 26 r4.2 r1.1)).bind fun r5 =>
  (pv r5.2 (buildA Try.prog 26 [])).bind fun r6 =>
  (pv r6.2 (binA Try.prog .neq 26 r5.1 r6.1)).bind fun r7 =>
  condA r7.1 (some (.ret, ⟨[(2, (.v (Go.Value.int Go.IntKind.i64 2))), (8, r7.1), (5, r4.1), (2, (.v (Go.Value.int Go.IntKind.i64 0))), (1, r1.1), (0, a0)], r7.2⟩)) (some (.ret, ⟨[(2, (.v (Go.Value.int Go.IntKind.i64 0))), (8, r7.1), (5, r4.1), (2, (.v (Go.Value.int Go.IntKind.i64 0))), (1, r1.1), (0, a0)], r7.2⟩))) ((pv r4.2 (fieldAddrA Try.prog 26 r1.1 0)).bind fun r8 =>
  (pv r8.2 (loadA Try.prog 5 r8.2 r8.1)).bind fun r9 =>
  (pv r9.2 (binA Try.prog .gtr 5 r9.1 (.v (Go.Value.int Go.IntKind.u8 2)))).bind fun r10 =>
  (gsel false r10.2 (pv r10.2 (fieldAddrA Try.prog 26 r1.1 1)) r10.1).bind fun r11 =>
  (gsel false r11.2 (pv r11.2 (loadA Try.prog 5 r11.2 r11.1)) r10.1).bind fun r12 =>
  (gsel false r12.2 (pv r12.2 (binA Try.prog .gtr 5 r12.1 (.v (Go.Value.int Go.IntKind.u8 200)))) r10.1).bind fun r13 =>
  (pv r13.2 (pickA r10.1 (.v (Go.Value.bool true)) r13.1)).bind fun r14 =>
  (gsel false r14.2 (pv r14.2 (fieldAddrA Try.prog 26 r1.1 2)) r14.1).bind fun r15 =>
  (gsel false r15.2 (pv r15.2 (loadA Try.prog 22 r15.2 r15.1)) r14.1).bind fun r16 =>
  (gsel false r16.2 (pv r16.2 (binA Try.prog .gtr 22 r16.1 (.v (Go.Value.int Go.IntKind.u32 48640)))) r14.1).bind fun r17 =>
  (pv r17.2 (pickA r14.1 (.v (Go.Value.bool true)) r17.1)).bind fun r18 =>
  (gsel false r18.2 (pv r18.2 (fieldAddrA Try.prog 26 r1.1 0)) r18.1).bind fun r19 =>
  (gsel false r19.2 (pv r19.2 (loadA Try.prog 5 r19.2 r19.1)) r18.1).bind fun r20 =>
  (gsel false r20.2 (pv r20.2 (binA Try.prog .eql 5 r20.1 (.v (Go.Value.int Go.IntKind.u8 2)))) r18.1).bind fun r21 =>
  (gsel false r21.2 (some (r21.1, r21.2)) r18.1).bind fun r22 =>
  (gsel true r22.2 (pv r22.2 (fieldAddrA Try.prog 26 r1.1 2)) r22.1).bind fun r23 =>
  (gsel true r23.2 (pv r23.2 (loadA Try.prog 22 r23.2 r23.1)) r22.1).bind fun r24 =>
  (gsel true r24.2 (pv r24.2 (binA Try.prog .rem 22 r24.1 (.v (Go.Value.int Go.IntKind.u32 64)))) r22.1).bind fun r25 =>
  (gsel true r25.2 (pv r25.2 (binA Try.prog .neq 22 r25.1 (.v (Go.Value.int Go.IntKind.u32 0)))) r22.1).bind fun r26 =>
  (gsel false r26.2 (pv r26.2 (pickA r22.1 r26.1 (.v (Go.Value.bool false)))) r18.1).bind fun r27 =>
  (pv r27.2 (pickA r18.1 (.v (Go.Value.bool true)) r27.1)).bind fun r28 =>
  condA r28.1 (some (.ret, ⟨[(2, (.v (Go.Value.int Go.IntKind.i64 2))), (32, r28.1), (5, r4.1), (2, (.v (Go.Value.int Go.IntKind.i64 0))), (1, r1.1), (0, a0)], r28.2⟩)) (some (.ret, ⟨[(2, (.v (Go.Value.int Go.IntKind.i64 0))), (32, r28.1), (5, r4.1), (2, (.v (Go.Value.int Go.IntKind.i64 0))), (1, r1.1), (0, a0)], r28.2⟩)))
theorem c_r10_Check_eq : Try.f9.body = some c_r10_Check := by kernel_rfl
theorem d_r10_Check : drawsOk Try.prog md0 c_r10_Check = true := by kernel_rfl
theorem F_r10_Check_eq (E : FnA) (n n0 : Nat) (a0 : AV) (bx : Bx) : evK Try.prog md0 E 33 kp_r10_Check n n0 c_r10_Check ⟨[(0, a0)], bx⟩ (fun s => some (.normal, s)) (fun i s => some (.exit i, s)) = F_r10_Check E n n0 a0 bx := by kernel_rfl

theorem E_r10_Check (n : Nat) (a0 : AV) (bx : Bx) : evFn cx0 ext0 (n + 1) 9 [a0] bx = fin Try.prog [.tmp 2] (F_r10_Check (evFn cx0 ext0 n) n bx.length a0 bx) := by
  rw [evFn_eq2 (cx := cx0) (c := c_r10_Check) rfl Try.func9 c_r10_Check_eq (of_decide_eq_true (by kernel_rfl)) d_r10_Check (of_decide_eq_true (by kernel_rfl))]
  exact congrArg (fin Try.prog [.tmp 2]) (F_r10_Check_eq (evFn cx0 ext0 n) n bx.length a0 bx)

/-- scupper/scupperlaw10.works -/
def kp_l10_works : Option (List Nat) := some [0, 1, 2, 3, 4]
noncomputable def c_l10_works : Code := Try.f10.body.getD .skip
noncomputable def F_l10_works (E : FnA) (_n _n0 : Nat) (bx : Bx) : Option (Ex × S) :=
  (callA E md0 bx 11 [(.v (Go.Value.int Go.IntKind.i64 1)), (.v (Go.Value.int Go.IntKind.i64 2))]).bind fun r1 =>
  (pv r1.2 (tupA r1.1 0)).bind fun r2 =>
  (pv r2.2 (tupA r1.1 1)).bind fun r3 =>
  (pv r3.2 (tupA r1.1 2)).bind fun r4 =>
  (pv r4.2 (buildA Try.prog 26 [(0, (.v (Go.Value.int Go.IntKind.u8 1))), (2, (.v (Go.Value.int Go.IntKind.u32 258)))])).bind fun r5 =>
  (callA E md0 r5.2 16 [r5.1]).bind fun r6 =>
  (allocA Try.prog r6.2 40).bind fun r7 =>
  (stA Try.prog 40 r7.2 r7.1 r6.1).bind fun r8 =>
  (pv r8.2 (binA Try.prog .eql 3 r2.1 (.v (Go.Value.int Go.IntKind.i64 20)))).bind fun r9 =>
  (gsel true r9.2 (some (r3.1, r9.2)) r9.1).bind fun r10 =>
  (gsel true r10.2 (pv r10.2 (binA Try.prog .eql 3 r10.1 (.v (Go.Value.int Go.IntKind.i64 4)))) r9.1).bind fun r11 =>
  (pv r11.2 (pickA r9.1 r11.1 (.v (Go.Value.bool false)))).bind fun r12 =>
  (gsel true r12.2 (some (r4.1, r12.2)) r12.1).bind fun r13 =>
  (gsel true r13.2 (pv r13.2 (binA Try.prog .eql 27 r13.1 (.v (Go.Value.int Go.IntKind.i64 0)))) r12.1).bind fun r14 =>
  (pv r14.2 (pickA r12.1 r14.1 (.v (Go.Value.bool false)))).bind fun r15 =>
  (gsel true r15.2 (pv r15.2 (indexAddrA Try.prog 40 r7.1 (.v (Go.Value.int Go.IntKind.i64 2)))) r15.1).bind fun r16 =>
  (gsel true r16.2 (pv r16.2 (loadA Try.prog 5 r16.2 r16.1)) r15.1).bind fun r17 =>
  (gsel true r17.2 (pv r17.2 (binA Try.prog .eql 5 r17.1 (.v (Go.Value.int Go.IntKind.u8 2)))) r15.1).bind fun r18 =>
  (pv r18.2 (pickA r15.1 r18.1 (.v (Go.Value.bool false)))).bind fun r19 =>
  (gsel true r19.2 (pv r19.2 (indexAddrA Try.prog 40 r7.1 (.v (Go.Value.int Go.IntKind.i64 3)))) r19.1).bind fun r20 =>
  (gsel true r20.2 (pv r20.2 (loadA Try.prog 5 r20.2 r20.1)) r19.1).bind fun r21 =>
  (gsel true r21.2 (pv r21.2 (binA Try.prog .eql 5 r21.1 (.v (Go.Value.int Go.IntKind.u8 1)))) r19.1).bind fun r22 =>
  (pv r22.2 (pickA r19.1 r22.1 (.v (Go.Value.bool false)))).bind fun r23 =>
  (gsel true r23.2 (pv r23.2 (buildA Try.prog 26 [(0, (.v (Go.Value.int Go.IntKind.u8 1)))])) r23.1).bind fun r24 =>
  (gsel true r24.2 (callA E md0 r24.2 8 [r24.1]) r23.1).bind fun r25 =>
  (gsel true r25.2 (pv r25.2 (binA Try.prog .eql 27 r25.1 (.v (Go.Value.int Go.IntKind.i64 0)))) r23.1).bind fun r26 =>
  (pv r26.2 (pickA r23.1 r26.1 (.v (Go.Value.bool false)))).bind fun r27 =>
  some (.ret, ⟨[(0, r27.1), (4, r7.1), (3, r4.1), (2, r3.1), (1, r2.1), (0, (.v (Go.Value.bool false)))], r27.2⟩)
theorem c_l10_works_eq : Try.f10.body = some c_l10_works := by kernel_rfl
theorem d_l10_works : drawsOk Try.prog md0 c_l10_works = true := by kernel_rfl
theorem F_l10_works_eq (E : FnA) (n n0 : Nat) (bx : Bx) : evK Try.prog md0 E 37 kp_l10_works n n0 c_l10_works ⟨[], bx⟩ (fun s => some (.normal, s)) (fun i s => some (.exit i, s)) = F_l10_works E n n0  bx := by kernel_rfl

theorem E_l10_works (n : Nat) (bx : Bx) : evFn cx0 ext0 (n + 1) 10 [] bx = fin Try.prog [.tmp 0] (F_l10_works (evFn cx0 ext0 n) n bx.length  bx) := by
  rw [evFn_eq2 (cx := cx0) (c := c_l10_works) rfl Try.func10 c_l10_works_eq (of_decide_eq_true (by kernel_rfl)) d_l10_works (of_decide_eq_true (by kernel_rfl))]
  exact congrArg (fin Try.prog [.tmp 0]) (F_l10_works_eq (evFn cx0 ext0 n) n bx.length  bx)

/-- scupper/inode.Offset -/
def kp_inode_Offset : Option (List Nat) := some [0, 1, 4, 5, 6, 7, 8, 9, 22]
noncomputable def c_inode_Offset : Code := Try.f11.body.getD .skip
noncomputable def F_inode_Offset (E : FnA) (_n _n0 : Nat) (a0 a1 : AV) (bx : Bx) : Option (Ex × S) :=
  (callA E md0 bx 24 [a1]).bind fun r1 =>
  (pv r1.2 (tupA r1.1 0)).bind fun r2 =>
  (pv r2.2 (tupA r1.1 1)).bind fun r3 =>
  (pv r3.2 (tupA r1.1 2)).bind fun r4 =>
  (callA E md0 r4.2 25 [a0]).bind fun r5 =>
  (pv r5.2 (unA .not r5.1)).bind fun r6 =>
  (gsel false r6.2 (some (r4.1, r6.2)) r6.1).bind fun r7 =>
  (gsel false r7.2 (pv r7.2 (unA .not r7.1)) r6.1).bind fun r8 =>
  (pv r8.2 (pickA r6.1 (.v (Go.Value.bool true)) r8.1)).bind fun r9 =>
  condA r9.1 (some (.ret, ⟨[(6, (.v (Go.Value.int Go.IntKind.i64 2))), (5, (.v (Go.Value.int Go.IntKind.i64 0))), (4, (.v (Go.Value.int Go.IntKind.i64 0))), (22, r9.1), (9, r4.1), (8, r3.1), (7, r2.1), (6, (.v (Go.Value.int Go.IntKind.i64 0))), (5, (.v (Go.Value.int Go.IntKind.i64 0))), (4, (.v (Go.Value.int Go.IntKind.i64 0))), (0, a0), (1, a1)], r9.2⟩)) ((pv r9.2 (binA Try.prog .mul 3 (.v (Go.Value.int Go.IntKind.i64 18)) a0)).bind fun r10 =>
  (pv r10.2 (binA Try.prog .add 3 r10.1 r2.1)).bind fun r11 =>
  some (.ret, ⟨[(6, (.v (Go.Value.int Go.IntKind.i64 0))), (5, r3.1), (4, r11.1), (22, r9.1), (9, r4.1), (8, r3.1), (7, r2.1), (6, (.v (Go.Value.int Go.IntKind.i64 0))), (5, (.v (Go.Value.int Go.IntKind.i64 0))), (4, (.v (Go.Value.int Go.IntKind.i64 0))), (0, a0), (1, a1)], r11.2⟩))
theorem c_inode_Offset_eq : Try.f11.body = some c_inode_Offset := by kernel_rfl
theorem d_inode_Offset : drawsOk Try.prog md0 c_inode_Offset = true := by kernel_rfl
theorem F_inode_Offset_eq (E : FnA) (n n0 : Nat) (a0 a1 : AV) (bx : Bx) : evK Try.prog md0 E 28 kp_inode_Offset n n0 c_inode_Offset ⟨[(0, a0), (1, a1)], bx⟩ (fun s => some (.normal, s)) (fun i s => some (.exit i, s)) = F_inode_Offset E n n0 a0 a1 bx := by kernel_rfl

theorem E_inode_Offset (n : Nat) (a0 a1 : AV) (bx : Bx) : evFn cx0 ext0 (n + 1) 11 [a0, a1] bx = fin Try.prog [.tmp 4, .tmp 5, .tmp 6] (F_inode_Offset (evFn cx0 ext0 n) n bx.length a0 a1 bx) := by
  rw [evFn_eq2 (cx := cx0) (c := c_inode_Offset) rfl Try.func11 c_inode_Offset_eq (of_decide_eq_true (by kernel_rfl)) d_inode_Offset (of_decide_eq_true (by kernel_rfl))]
  exact congrArg (fin Try.prog [.tmp 4, .tmp 5, .tmp 6]) (F_inode_Offset_eq (evFn cx0 ext0 n) n bx.length a0 a1 bx)

/-- scupper/scupperref10.Offset -/
def kp_r10_Offset : Option (List Nat) := some [0, 1, 4, 5, 6, 7, 8, 9, 25]
noncomputable def c_r10_Offset : Code := Try.f12.body.getD .skip
noncomputable def F_r10_Offset (E : FnA) (_n _n0 : Nat) (a0 a1 : AV) (bx : Bx) : Option (Ex × S) :=
  (callA E md0 bx 26 [a1]).bind fun r1 =>
  (pv r1.2 (tupA r1.1 0)).bind fun r2 =>
  (pv r2.2 (tupA r1.1 1)).bind fun r3 =>
  (pv r3.2 (tupA r1.1 2)).bind fun r4 =>
  (pv r4.2 (binA Try.prog .lss 3 a0 (.v (Go.Value.int Go.IntKind.i64 0)))).bind fun r5 =>
  (gsel false r5.2 (some (a0, r5.2)) r5.1).bind fun r6 =>
  (gsel false r6.2 (pv r6.2 (binA Try.prog .gtr 3 r6.1 (.v (Go.Value.int Go.IntKind.i64 2)))) r5.1).bind fun r7 =>
  (pv r7.2 (pickA r5.1 (.v (Go.Value.bool true)) r7.1)).bind fun r8 =>
  (gsel false r8.2 (some (r4.1, r8.2)) r8.1).bind fun r9 =>
  (gsel false r9.2 (pv r9.2 (unA .not r9.1)) r8.1).bind fun r10 =>
  (pv r10.2 (pickA r8.1 (.v (Go.Value.bool true)) r10.1)).bind fun r11 =>
  condA r11.1 (some (.ret, ⟨[(6, (.v (Go.Value.int Go.IntKind.i64 2))), (5, (.v (Go.Value.int Go.IntKind.i64 0))), (4, (.v (Go.Value.int Go.IntKind.i64 0))), (25, r11.1), (9, r4.1), (8, r3.1), (7, r2.1), (6, (.v (Go.Value.int Go.IntKind.i64 0))), (5, (.v (Go.Value.int Go.IntKind.i64 0))), (4, (.v (Go.Value.int Go.IntKind.i64 0))), (0, a0), (1, a1)], r11.2⟩)) ((pv r11.2 (binA Try.prog .mul 3 (.v (Go.Value.int Go.IntKind.i64 18)) a0)).bind fun r12 =>
  (pv r12.2 (binA Try.prog .add 3 r12.1 r2.1)).bind fun r13 =>
  some (.ret, ⟨[(6, (.v (Go.Value.int Go.IntKind.i64 0))), (5, r3.1), (4, r13.1), (25, r11.1), (9, r4.1), (8, r3.1), (7, r2.1), (6, (.v (Go.Value.int Go.IntKind.i64 0))), (5, (.v (Go.Value.int Go.IntKind.i64 0))), (4, (.v (Go.Value.int Go.IntKind.i64 0))), (0, a0), (1, a1)], r13.2⟩))
theorem c_r10_Offset_eq : Try.f12.body = some c_r10_Offset := by kernel_rfl
theorem d_r10_Offset : drawsOk Try.prog md0 c_r10_Offset = true := by kernel_rfl
theorem F_r10_Offset_eq (E : FnA) (n n0 : Nat) (a0 a1 : AV) (bx : Bx) : evK Try.prog md0 E 31 kp_r10_Offset n n0 c_r10_Offset ⟨[(0, a0), (1, a1)], bx⟩ (fun s => some (.normal, s)) (fun i s => some (.exit i, s)) = F_r10_Offset E n n0 a0 a1 bx := by kernel_rfl

theorem E_r10_Offset (n : Nat) (a0 a1 : AV) (bx : Bx) : evFn cx0 ext0 (n + 1) 12 [a0, a1] bx = fin Try.prog [.tmp 4, .tmp 5, .tmp 6] (F_r10_Offset (evFn cx0 ext0 n) n bx.length a0 a1 bx) := by
  rw [evFn_eq2 (cx := cx0) (c := c_r10_Offset) rfl Try.func12 c_r10_Offset_eq (of_decide_eq_true (by kernel_rfl)) d_r10_Offset (of_decide_eq_true (by kernel_rfl))]
  exact congrArg (fin Try.prog [.tmp 4, .tmp 5, .tmp 6]) (F_r10_Offset_eq (evFn cx0 ext0 n) n bx.length a0 a1 bx)

/-- scupper/inode.Fields -/
def kp_inode_Fields : Option (List Nat) := some [0, 1, 2, 4, 5, 6, 7, 8, 16]
noncomputable def c_inode_Fields : Code := Try.f13.body.getD .skip
noncomputable def F_inode_Fields (E : FnA) (_n _n0 : Nat) (a0 a1 : AV) (bx : Bx) : Option (Ex × S) :=
  (boxA bx a0).bind fun r1 =>
  (some (AV.bsl (List.length r1.2) 0 0 0, r1.2 ++ [[]])).bind fun r2 =>
  (callA E md0 r2.2 24 [a1]).bind fun r3 =>
  (pv r3.2 (tupA r3.1 0)).bind fun r4 =>
  (pv r4.2 (tupA r3.1 1)).bind fun r5 =>
  (pv r5.2 (tupA r3.1 2)).bind fun r6 =>
  (pv r6.2 (unA .not r6.1)).bind fun r7 =>
  condA r7.1 ((some (AV.bsl (List.length r7.2) 0 0 0, r7.2 ++ [[]])).bind fun r8 =>
  some (.ret, ⟨[(4, r8.1), (16, r7.1), (7, r6.1), (6, r5.1), (5, r4.1), (4, r2.1), (2, r1.1), (0, a0), (1, a1)], r8.2⟩)) ((pv r7.2 (loadA Try.prog 26 r7.2 r1.1)).bind fun r9 =>
  (callA E md0 r9.2 16 [r9.1]).bind fun r10 =>
  (allocA Try.prog r10.2 40).bind fun r11 =>
  (stA Try.prog 40 r11.2 r11.1 r10.1).bind fun r12 =>
  (pv r12.2 (binA Try.prog .add 3 r4.1 r5.1)).bind fun r13 =>
  (pv r13.2 (sliceA Try.prog r13.2 40 r11.1 (some r4.1) (some r13.1) none)).bind fun r14 =>
  some (.ret, ⟨[(4, r14.1), (8, r11.1), (16, r7.1), (7, r6.1), (6, r5.1), (5, r4.1), (4, r2.1), (2, r1.1), (0, a0), (1, a1)], r14.2⟩))
theorem c_inode_Fields_eq : Try.f13.body = some c_inode_Fields := by kernel_rfl
theorem d_inode_Fields : drawsOk Try.prog md0 c_inode_Fields = true := by kernel_rfl
theorem F_inode_Fields_eq (E : FnA) (n n0 : Nat) (a0 a1 : AV) (bx : Bx) : evK Try.prog md0 E 24 kp_inode_Fields n n0 c_inode_Fields ⟨[(0, a0), (1, a1)], bx⟩ (fun s => some (.normal, s)) (fun i s => some (.exit i, s)) = F_inode_Fields E n n0 a0 a1 bx := by kernel_rfl

theorem E_inode_Fields (n : Nat) (a0 a1 : AV) (bx : Bx) : evFn cx0 ext0 (n + 1) 13 [a0, a1] bx = fin Try.prog [.tmp 4] (F_inode_Fields (evFn cx0 ext0 n) n bx.length a0 a1 bx) := by
  rw [evFn_eq2 (cx := cx0) (c := c_inode_Fields) rfl Try.func13 c_inode_Fields_eq (of_decide_eq_true (by kernel_rfl)) d_inode_Fields (of_decide_eq_true (by kernel_rfl))]
  exact congrArg (fin Try.prog [.tmp 4]) (F_inode_Fields_eq (evFn cx0 ext0 n) n bx.length a0 a1 bx)

/-- scupper/scupperbase.SameBytes -/
def kp_base_SameBytes : Option (List Nat) := some [0, 1, 4]
noncomputable def c_base_SameBytes : Code := Try.f14.body.getD .skip
noncomputable def F_base_SameBytes (_E : FnA) (_n _n0 : Nat) (a0 a1 : AV) (bx : Bx) : Option (Ex × S) :=
  (convA Try.prog bx 35 9 a0).bind fun r1 =>
  (convA Try.prog r1.2 35 9 a1).bind fun r2 =>
  (pv r2.2 (binA Try.prog .eql 9 r1.1 r2.1)).bind fun r3 =>
  some (.ret, ⟨[(4, r3.1), (4, (.v (Go.Value.bool false))), (0, a0), (1, a1)], r3.2⟩)
theorem c_base_SameBytes_eq : Try.f14.body = some c_base_SameBytes := by kernel_rfl
theorem d_base_SameBytes : drawsOk Try.prog md0 c_base_SameBytes = true := by kernel_rfl
theorem F_base_SameBytes_eq (E : FnA) (n n0 : Nat) (a0 a1 : AV) (bx : Bx) : evK Try.prog md0 E 10 kp_base_SameBytes n n0 c_base_SameBytes ⟨[(0, a0), (1, a1)], bx⟩ (fun s => some (.normal, s)) (fun i s => some (.exit i, s)) = F_base_SameBytes E n n0 a0 a1 bx := by kernel_rfl

theorem E_base_SameBytes (n : Nat) (a0 a1 : AV) (bx : Bx) : evFn cx0 ext0 (n + 1) 14 [a0, a1] bx = fin Try.prog [.tmp 4] (F_base_SameBytes (evFn cx0 ext0 n) n bx.length a0 a1 bx) := by
  rw [evFn_eq2 (cx := cx0) (c := c_base_SameBytes) rfl Try.func14 c_base_SameBytes_eq (of_decide_eq_true (by kernel_rfl)) d_base_SameBytes (of_decide_eq_true (by kernel_rfl))]
  exact congrArg (fin Try.prog [.tmp 4]) (F_base_SameBytes_eq (evFn cx0 ext0 n) n bx.length a0 a1 bx)

/-- scupper/scupperref10.Fields -/
def kp_r10_Fields : Option (List Nat) := some [0, 1, 2, 4, 5, 6, 7, 15]
noncomputable def c_r10_Fields : Code := Try.f15.body.getD .skip
noncomputable def F_r10_Fields (E : FnA) (_n _n0 : Nat) (a0 a1 : AV) (bx : Bx) : Option (Ex × S) :=
  (boxA bx a0).bind fun r1 =>
  (some (AV.bsl (List.length r1.2) 0 0 0, r1.2 ++ [[]])).bind fun r2 =>
  (callA E md0 r2.2 26 [a1]).bind fun r3 =>
  (pv r3.2 (tupA r3.1 0)).bind fun r4 =>
  (pv r4.2 (tupA r3.1 1)).bind fun r5 =>
  (pv r5.2 (tupA r3.1 2)).bind fun r6 =>
  (pv r6.2 (unA .not r6.1)).bind fun r7 =>
  condA r7.1 ((some (AV.bsl (List.length r7.2) 0 0 0, r7.2 ++ [[]])).bind fun r8 =>
  some (.ret, ⟨[(4, r8.1), (15, r7.1), (7, r6.1), (6, r5.1), (5, r4.1), (4, r2.1), (2, r1.1), (0, a0), (1, a1)], r8.2⟩)) ((pv r7.2 (loadA Try.prog 26 r7.2 r1.1)).bind fun r9 =>
  (callA E md0 r9.2 17 [r9.1]).bind fun r10 =>
  (pv r10.2 (binA Try.prog .add 3 r4.1 r5.1)).bind fun r11 =>
  (pv r11.2 (sliceA Try.prog r11.2 35 r10.1 (some r4.1) (some r11.1) none)).bind fun r12 =>
  some (.ret, ⟨[(4, r12.1), (15, r7.1), (7, r6.1), (6, r5.1), (5, r4.1), (4, r2.1), (2, r1.1), (0, a0), (1, a1)], r12.2⟩))
theorem c_r10_Fields_eq : Try.f15.body = some c_r10_Fields := by kernel_rfl
theorem d_r10_Fields : drawsOk Try.prog md0 c_r10_Fields = true := by kernel_rfl
theorem F_r10_Fields_eq (E : FnA) (n n0 : Nat) (a0 a1 : AV) (bx : Bx) : evK Try.prog md0 E 23 kp_r10_Fields n n0 c_r10_Fields ⟨[(0, a0), (1, a1)], bx⟩ (fun s => some (.normal, s)) (fun i s => some (.exit i, s)) = F_r10_Fields E n n0 a0 a1 bx := by kernel_rfl

theorem E_r10_Fields (n : Nat) (a0 a1 : AV) (bx : Bx) : evFn cx0 ext0 (n + 1) 15 [a0, a1] bx = fin Try.prog [.tmp 4] (F_r10_Fields (evFn cx0 ext0 n) n bx.length a0 a1 bx) := by
  rw [evFn_eq2 (cx := cx0) (c := c_r10_Fields) rfl Try.func15 c_r10_Fields_eq (of_decide_eq_true (by kernel_rfl)) d_r10_Fields (of_decide_eq_true (by kernel_rfl))]
  exact congrArg (fin Try.prog [.tmp 4]) (F_r10_Fields_eq (evFn cx0 ext0 n) n bx.length a0 a1 bx)

/-- scupper/inode.Put -/
def kp_inode_Put : Option (List Nat) := some [0, 1, 2, 3, 4, 5, 7, 8, 39, 40, 41]
noncomputable def c_inode_Put : Code := Try.f16.body.getD .skip
noncomputable def L_inode_Put_0 (E : FnA) (_n _n0 : Nat) (s : S) : Option (Ex × S) :=
  (pv s.bx (binA Try.prog .lss 3 (get s.env 40) (.v (Go.Value.int Go.IntKind.i64 6)))).bind fun r46 =>
  condA r46.1 ((pv r46.2 (indexA Try.prog 60 (get (prune kp_inode_Put s.env) 39) (get (prune kp_inode_Put s.env) 40))).bind fun r47 =>
  (callA E md0 r47.2 28 [r47.1]).bind fun r48 =>
  (allocA Try.prog r48.2 61).bind fun r49 =>
  (stA Try.prog 61 r49.2 r49.1 r48.1).bind fun r50 =>
  (pv r50.2 (sliceA Try.prog r50.2 40 (get (prune kp_inode_Put (prune kp_inode_Put (prune kp_inode_Put s.env))) 3) (some (get (prune kp_inode_Put (prune kp_inode_Put (prune kp_inode_Put s.env))) 5)) none none)).bind fun r51 =>
  (pv r51.2 (sliceA Try.prog r51.2 61 r49.1 none none none)).bind fun r52 =>
  (copyA Try.prog r52.2 35 r51.1 r52.1).bind fun r53 =>
  (pv r53.2 (binA Try.prog .add 3 (get (prune kp_inode_Put (prune kp_inode_Put (prune kp_inode_Put s.env))) 5) r53.1)).bind fun r54 =>
  (pv r54.2 (binA Try.prog .add 3 (get (prune kp_inode_Put (prune kp_inode_Put (prune kp_inode_Put (prune kp_inode_Put s.env)))) 40) (.v (Go.Value.int Go.IntKind.i64 1)))).bind fun r55 =>
  some (.normal, ⟨((40, r55.1) :: (5, r54.1) :: (8, r49.1) :: (7, r47.1) :: (41, r46.1) :: (prune kp_inode_Put (prune kp_inode_Put (prune kp_inode_Put (prune kp_inode_Put (prune kp_inode_Put s.env)))))), r55.2⟩)) (some (.exit 0, ⟨((41, r46.1) :: (prune kp_inode_Put s.env)), r46.2⟩))
noncomputable def B_inode_Put_0 (E : FnA) (_n _n0 : Nat) (x40 x39 x5 x5_1 x4 x3 x2 x1 x0 : AV) (y : Bx) : Option (Ex × S) :=
  (pv y (binA Try.prog .lss 3 x40 (.v (Go.Value.int Go.IntKind.i64 6)))).bind fun r36 =>
  condA r36.1 ((pv r36.2 (indexA Try.prog 60 x39 x40)).bind fun r37 =>
  (callA E md0 r37.2 28 [r37.1]).bind fun r38 =>
  (allocA Try.prog r38.2 61).bind fun r39 =>
  (stA Try.prog 61 r39.2 r39.1 r38.1).bind fun r40 =>
  (pv r40.2 (sliceA Try.prog r40.2 40 x3 (some x5) none none)).bind fun r41 =>
  (pv r41.2 (sliceA Try.prog r41.2 61 r39.1 none none none)).bind fun r42 =>
  (copyA Try.prog r42.2 35 r41.1 r42.1).bind fun r43 =>
  (pv r43.2 (binA Try.prog .add 3 x5 r43.1)).bind fun r44 =>
  (pv r44.2 (binA Try.prog .add 3 x40 (.v (Go.Value.int Go.IntKind.i64 1)))).bind fun r45 =>
  some (.normal, ⟨[(40, r45.1), (5, r44.1), (8, r39.1), (7, r37.1), (41, r36.1), (40, x40), (39, x39), (5, x5), (5, x5_1), (4, x4), (3, x3), (2, x2), (1, x1), (0, x0)], r45.2⟩)) (some (.exit 0, ⟨[(41, r36.1), (40, x40), (39, x39), (5, x5), (5, x5_1), (4, x4), (3, x3), (2, x2), (1, x1), (0, x0)], r36.2⟩))
theorem L_inode_Put_0_lit {E : FnA} {n n0 : Nat} {x40 x39 x5 x5_1 x4 x3 x2 x1 x0 : AV} {y : Bx} {Q : Ex → S → Prop} (h : Ends (B_inode_Put_0 E n n0 x40 x39 x5 x5_1 x4 x3 x2 x1 x0 y) Q) : Ends (L_inode_Put_0 E n n0 ⟨[(40, x40), (39, x39), (5, x5), (5, x5_1), (4, x4), (3, x3), (2, x2), (1, x1), (0, x0)], y⟩) Q := by
  rw [show L_inode_Put_0 E n n0 ⟨[(40, x40), (39, x39), (5, x5), (5, x5_1), (4, x4), (3, x3), (2, x2), (1, x1), (0, x0)], y⟩ = B_inode_Put_0 E n n0 x40 x39 x5 x5_1 x4 x3 x2 x1 x0 y by kernel_rfl]
  exact h
noncomputable def K_inode_Put_0 (_E : FnA) (_n _n0 : Nat) (t : S) : Option (Ex × S) :=
  (pv t.bx (loadA Try.prog 40 t.bx (get t.env 3))).bind fun r58 =>
  (stA Try.prog 40 r58.2 (get t.env 2) r58.1).bind fun r59 =>
  some (.ret, ⟨(prune kp_inode_Put t.env), r59.2⟩)
noncomputable def X_inode_Put_0 (_E : FnA) (_n _n0 : Nat) (i : Nat) (t : S) : Option (Ex × S) :=
  if i = 0 then (pv t.bx (loadA Try.prog 40 t.bx (get t.env 3))).bind fun r56 =>
  (stA Try.prog 40 r56.2 (get t.env 2) r56.1).bind fun r57 =>
  some (.ret, ⟨(prune kp_inode_Put t.env), r57.2⟩) else some (.exit i, ⟨t.env, t.bx⟩)
noncomputable def X_inode_Put_0_0 (_E : FnA) (_n _n0 : Nat) (x41 x40 x39 x5 x5_1 x4 x3 x2 x1 x0 : AV) (y : Bx) : Option (Ex × S) :=
  (pv y (loadA Try.prog 40 y x3)).bind fun r60 =>
  (stA Try.prog 40 r60.2 x2 r60.1).bind fun r61 =>
  some (.ret, ⟨[(41, x41), (40, x40), (39, x39), (5, x5), (5, x5_1), (4, x4), (3, x3), (2, x2), (1, x1), (0, x0)], r61.2⟩)
theorem X_inode_Put_0_0_lit {E : FnA} {n n0 : Nat} {x41 x40 x39 x5 x5_1 x4 x3 x2 x1 x0 : AV} {y : Bx} {Q : Ex → S → Prop} (h : Ends (X_inode_Put_0_0 E n n0 x41 x40 x39 x5 x5_1 x4 x3 x2 x1 x0 y) Q) : Ends (X_inode_Put_0 E n n0 0 ⟨[(41, x41), (40, x40), (39, x39), (5, x5), (5, x5_1), (4, x4), (3, x3), (2, x2), (1, x1), (0, x0)], y⟩) Q := by
  rw [show X_inode_Put_0 E n n0 0 ⟨[(41, x41), (40, x40), (39, x39), (5, x5), (5, x5_1), (4, x4), (3, x3), (2, x2), (1, x1), (0, x0)], y⟩ = X_inode_Put_0_0 E n n0 x41 x40 x39 x5 x5_1 x4 x3 x2 x1 x0 y by kernel_rfl]
  exact h
noncomputable def F_inode_Put (E : FnA) (n n0 : Nat) (a0 : AV) (bx : Bx) : Option (Ex × S) :=
  (boxA bx a0).bind fun r1 =>
  (allocA Try.prog r1.2 40).bind fun r2 =>
  (pv r2.2 (fieldAddrA Try.prog 26 r1.1 0)).bind fun r3 =>
  (pv r3.2 (loadA Try.prog 5 r3.2 r3.1)).bind fun r4 =>
  (pv r4.2 (fieldAddrA Try.prog 26 r1.1 1)).bind fun r5 =>
  (pv r5.2 (loadA Try.prog 5 r5.2 r5.1)).bind fun r6 =>
  (pv r6.2 (buildA Try.prog 40 [(0, r4.1), (1, r6.1)])).bind fun r7 =>
  (allocA Try.prog r7.2 40).bind fun r8 =>
  (stA Try.prog 40 r8.2 r8.1 r7.1).bind fun r9 =>
  (pv r9.2 (fieldAddrA Try.prog 26 r1.1 2)).bind fun r10 =>
  (pv r10.2 (loadA Try.prog 22 r10.2 r10.1)).bind fun r11 =>
  (callA E md0 r11.2 27 [r11.1]).bind fun r12 =>
  (allocA Try.prog r12.2 58).bind fun r13 =>
  (stA Try.prog 58 r13.2 r13.1 r12.1).bind fun r14 =>
  (pv r14.2 (sliceA Try.prog r14.2 40 r8.1 (some (.v (Go.Value.int Go.IntKind.i64 2))) none none)).bind fun r15 =>
  (pv r15.2 (sliceA Try.prog r15.2 58 r13.1 none none none)).bind fun r16 =>
  (copyA Try.prog r16.2 35 r15.1 r16.1).bind fun r17 =>
  (pv r17.2 (binA Try.prog .add 3 (.v (Go.Value.int Go.IntKind.i64 2)) r17.1)).bind fun r18 =>
  (pv r18.2 (fieldAddrA Try.prog 26 r1.1 3)).bind fun r19 =>
  (pv r19.2 (indexAddrA Try.prog 24 r19.1 (.v (Go.Value.int Go.IntKind.i64 0)))).bind fun r20 =>
  (pv r20.2 (loadA Try.prog 23 r20.2 r20.1)).bind fun r21 =>
  (pv r21.2 (fieldAddrA Try.prog 26 r1.1 3)).bind fun r22 =>
  (pv r22.2 (indexAddrA Try.prog 24 r22.1 (.v (Go.Value.int Go.IntKind.i64 1)))).bind fun r23 =>
  (pv r23.2 (loadA Try.prog 23 r23.2 r23.1)).bind fun r24 =>
  (pv r24.2 (fieldAddrA Try.prog 26 r1.1 3)).bind fun r25 =>
  (pv r25.2 (indexAddrA Try.prog 24 r25.1 (.v (Go.Value.int Go.IntKind.i64 2)))).bind fun r26 =>
  (pv r26.2 (loadA Try.prog 23 r26.2 r26.1)).bind fun r27 =>
  (pv r27.2 (fieldAddrA Try.prog 26 r1.1 3)).bind fun r28 =>
  (pv r28.2 (indexAddrA Try.prog 24 r28.1 (.v (Go.Value.int Go.IntKind.i64 3)))).bind fun r29 =>
  (pv r29.2 (loadA Try.prog 23 r29.2 r29.1)).bind fun r30 =>
  (pv r30.2 (fieldAddrA Try.prog 26 r1.1 4)).bind fun r31 =>
  (pv r31.2 (loadA Try.prog 23 r31.2 r31.1)).bind fun r32 =>
  (pv r32.2 (fieldAddrA Try.prog 26 r1.1 5)).bind fun r33 =>
  (pv r33.2 (loadA Try.prog 23 r33.2 r33.1)).bind fun r34 =>
  (pv r34.2 (buildA Try.prog 60 [(0, r21.1), (1, r24.1), (2, r27.1), (3, r30.1), (4, r32.1), (5, r34.1)])).bind fun r35 =>
  exitA (iter ⟨[(40, (.v (Go.Value.int Go.IntKind.i64 0))), (39, r35.1), (5, r18.1), (5, (.v (Go.Value.int Go.IntKind.i64 2))), (4, r13.1), (3, r8.1), (2, r2.1), (1, r1.1), (0, a0)], r35.2⟩ (L_inode_Put_0 E n n0) n ⟨[(40, (.v (Go.Value.int Go.IntKind.i64 0))), (39, r35.1), (5, r18.1), (5, (.v (Go.Value.int Go.IntKind.i64 2))), (4, r13.1), (3, r8.1), (2, r2.1), (1, r1.1), (0, a0)], r35.2⟩) (K_inode_Put_0 E n n0) (X_inode_Put_0 E n n0)
theorem c_inode_Put_eq : Try.f16.body = some c_inode_Put := by kernel_rfl
theorem d_inode_Put : drawsOk Try.prog md0 c_inode_Put = true := by kernel_rfl
theorem F_inode_Put_eq (E : FnA) (n n0 : Nat) (a0 : AV) (bx : Bx) : evK Try.prog md0 E 53 kp_inode_Put n n0 c_inode_Put ⟨[(0, a0)], bx⟩ (fun s => some (.normal, s)) (fun i s => some (.exit i, s)) = F_inode_Put E n n0 a0 bx := by kernel_rfl

theorem E_inode_Put (n : Nat) (a0 : AV) (bx : Bx) : evFn cx0 ext0 (n + 1) 16 [a0] bx = fin Try.prog [.cell 2 40] (F_inode_Put (evFn cx0 ext0 n) n bx.length a0 bx) := by
  rw [evFn_eq2 (cx := cx0) (c := c_inode_Put) rfl Try.func16 c_inode_Put_eq (of_decide_eq_true (by kernel_rfl)) d_inode_Put (of_decide_eq_true (by kernel_rfl))]
  exact congrArg (fin Try.prog [.cell 2 40]) (F_inode_Put_eq (evFn cx0 ext0 n) n bx.length a0 bx)

/-- scupper/scupperref10.Put -/
def kp_r10_Put : Option (List Nat) := some [0, 1, 2, 3, 4, 15]
noncomputable def c_r10_Put : Code := Try.f17.body.getD .skip
noncomputable def L_r10_Put_0 (E : FnA) (_n n0 : Nat) (s : S) : Option (Ex × S) :=
  (pv s.bx (binA Try.prog .lss 3 (get s.env 4) (.v (Go.Value.int Go.IntKind.i64 4)))).bind fun r19 =>
  condA r19.1 ((pv r19.2 (fieldAddrA Try.prog 26 (get (prune kp_r10_Put s.env) 1) 3)).bind fun r20 =>
  (pv r20.2 (indexAddrA Try.prog 24 r20.1 (get (prune kp_r10_Put s.env) 4))).bind fun r21 =>
  (pv r21.2 (loadA Try.prog 23 r21.2 r21.1)).bind fun r22 =>
  (callA E md0 r22.2 30 [r22.1]).bind fun r23 =>
  (appA Try.prog n0 r23.2 35 (get (prune kp_r10_Put s.env) 3) r23.1).bind fun r24 =>
  (pv r24.2.2 (binA Try.prog .add 3 (get (prune kp_r10_Put (mapE r24.2.1 (prune kp_r10_Put s.env))) 4) (.v (Go.Value.int Go.IntKind.i64 1)))).bind fun r25 =>
  some (.normal, ⟨((4, r25.1) :: (3, r24.1) :: (15, (r24.2.1 r19.1)) :: (prune kp_r10_Put (prune kp_r10_Put (mapE r24.2.1 (prune kp_r10_Put s.env))))), r25.2⟩)) (some (.exit 0, ⟨((15, r19.1) :: (prune kp_r10_Put s.env)), r19.2⟩))
noncomputable def B_r10_Put_0 (E : FnA) (_n n0 : Nat) (x4 x3 x2 x1 x0 : AV) (y : Bx) : Option (Ex × S) :=
  (pv y (binA Try.prog .lss 3 x4 (.v (Go.Value.int Go.IntKind.i64 4)))).bind fun r12 =>
  condA r12.1 ((pv r12.2 (fieldAddrA Try.prog 26 x1 3)).bind fun r13 =>
  (pv r13.2 (indexAddrA Try.prog 24 r13.1 x4)).bind fun r14 =>
  (pv r14.2 (loadA Try.prog 23 r14.2 r14.1)).bind fun r15 =>
  (callA E md0 r15.2 30 [r15.1]).bind fun r16 =>
  (appA Try.prog n0 r16.2 35 x3 r16.1).bind fun r17 =>
  (pv r17.2.2 (binA Try.prog .add 3 (r17.2.1 x4) (.v (Go.Value.int Go.IntKind.i64 1)))).bind fun r18 =>
  some (.normal, ⟨[(4, r18.1), (3, r17.1), (15, (r17.2.1 r12.1)), (4, (r17.2.1 x4)), (3, (r17.2.1 x3)), (2, (r17.2.1 x2)), (1, (r17.2.1 x1)), (0, (r17.2.1 x0))], r18.2⟩)) (some (.exit 0, ⟨[(15, r12.1), (4, x4), (3, x3), (2, x2), (1, x1), (0, x0)], r12.2⟩))
theorem L_r10_Put_0_lit {E : FnA} {n n0 : Nat} {x4 x3 x2 x1 x0 : AV} {y : Bx} {Q : Ex → S → Prop} (h : Ends (B_r10_Put_0 E n n0 x4 x3 x2 x1 x0 y) Q) : Ends (L_r10_Put_0 E n n0 ⟨[(4, x4), (3, x3), (2, x2), (1, x1), (0, x0)], y⟩) Q := by
  rw [show L_r10_Put_0 E n n0 ⟨[(4, x4), (3, x3), (2, x2), (1, x1), (0, x0)], y⟩ = B_r10_Put_0 E n n0 x4 x3 x2 x1 x0 y by kernel_rfl]
  exact h
noncomputable def K_r10_Put_0 (E : FnA) (_n n0 : Nat) (t : S) : Option (Ex × S) :=
  (pv t.bx (fieldAddrA Try.prog 26 (get t.env 1) 4)).bind fun r34 =>
  (pv r34.2 (loadA Try.prog 23 r34.2 r34.1)).bind fun r35 =>
  (callA E md0 r35.2 30 [r35.1]).bind fun r36 =>
  (appA Try.prog n0 r36.2 35 (get t.env 3) r36.1).bind fun r37 =>
  (pv r37.2.2 (fieldAddrA Try.prog 26 (get (mapE r37.2.1 t.env) 1) 5)).bind fun r38 =>
  (guardB (freeA (get t.env 3) (get (mapE r37.2.1 t.env) 1) && (freeA (get t.env 3) r38.1 && true))).bind fun _ =>
  (guardB (apartV (apAd r36.2 (get t.env 3)) r38.1 && true)).bind fun _ =>
  (pv r38.2 (loadA Try.prog 23 r38.2 r38.1)).bind fun r39 =>
  (guardB (freeA (get t.env 3) r38.1 && (freeA (get t.env 3) r39.1 && true))).bind fun _ =>
  (callA E md0 r39.2 30 [r39.1]).bind fun r40 =>
  (appA Try.prog n0 r40.2 35 r37.1 r40.1).bind fun r41 =>
  some (.ret, ⟨((2, r41.1) :: (prune kp_r10_Put (mapE r41.2.1 (mapE r37.2.1 t.env)))), r41.2.2⟩)
noncomputable def X_r10_Put_0 (E : FnA) (_n n0 : Nat) (i : Nat) (t : S) : Option (Ex × S) :=
  if i = 0 then (pv t.bx (fieldAddrA Try.prog 26 (get t.env 1) 4)).bind fun r26 =>
  (pv r26.2 (loadA Try.prog 23 r26.2 r26.1)).bind fun r27 =>
  (callA E md0 r27.2 30 [r27.1]).bind fun r28 =>
  (appA Try.prog n0 r28.2 35 (get t.env 3) r28.1).bind fun r29 =>
  (pv r29.2.2 (fieldAddrA Try.prog 26 (get (mapE r29.2.1 t.env) 1) 5)).bind fun r30 =>
  (guardB (freeA (get t.env 3) (get (mapE r29.2.1 t.env) 1) && (freeA (get t.env 3) r30.1 && true))).bind fun _ =>
  (guardB (apartV (apAd r28.2 (get t.env 3)) r30.1 && true)).bind fun _ =>
  (pv r30.2 (loadA Try.prog 23 r30.2 r30.1)).bind fun r31 =>
  (guardB (freeA (get t.env 3) r30.1 && (freeA (get t.env 3) r31.1 && true))).bind fun _ =>
  (callA E md0 r31.2 30 [r31.1]).bind fun r32 =>
  (appA Try.prog n0 r32.2 35 r29.1 r32.1).bind fun r33 =>
  some (.ret, ⟨((2, r33.1) :: (prune kp_r10_Put (mapE r33.2.1 (mapE r29.2.1 t.env)))), r33.2.2⟩) else some (.exit i, ⟨t.env, t.bx⟩)
noncomputable def X_r10_Put_0_0 (E : FnA) (_n n0 : Nat) (x15 x4 x3 x2 x1 x0 : AV) (y : Bx) : Option (Ex × S) :=
  (pv y (fieldAddrA Try.prog 26 x1 4)).bind fun r42 =>
  (pv r42.2 (loadA Try.prog 23 r42.2 r42.1)).bind fun r43 =>
  (callA E md0 r43.2 30 [r43.1]).bind fun r44 =>
  (appA Try.prog n0 r44.2 35 x3 r44.1).bind fun r45 =>
  (pv r45.2.2 (fieldAddrA Try.prog 26 (r45.2.1 x1) 5)).bind fun r46 =>
  (guardB (freeA x3 (r45.2.1 x1) && (freeA x3 r46.1 && true))).bind fun _ =>
  (guardB (apartV (apAd r44.2 x3) r46.1 && true)).bind fun _ =>
  (pv r46.2 (loadA Try.prog 23 r46.2 r46.1)).bind fun r47 =>
  (guardB (freeA x3 r46.1 && (freeA x3 r47.1 && true))).bind fun _ =>
  (callA E md0 r47.2 30 [r47.1]).bind fun r48 =>
  (appA Try.prog n0 r48.2 35 r45.1 r48.1).bind fun r49 =>
  some (.ret, ⟨[(2, r49.1), (15, (r49.2.1 (r45.2.1 x15))), (4, (r49.2.1 (r45.2.1 x4))), (3, (r49.2.1 (r45.2.1 x3))), (2, (r49.2.1 (r45.2.1 x2))), (1, (r49.2.1 (r45.2.1 x1))), (0, (r49.2.1 (r45.2.1 x0)))], r49.2.2⟩)
theorem X_r10_Put_0_0_lit {E : FnA} {n n0 : Nat} {x15 x4 x3 x2 x1 x0 : AV} {y : Bx} {Q : Ex → S → Prop} (h : Ends (X_r10_Put_0_0 E n n0 x15 x4 x3 x2 x1 x0 y) Q) : Ends (X_r10_Put_0 E n n0 0 ⟨[(15, x15), (4, x4), (3, x3), (2, x2), (1, x1), (0, x0)], y⟩) Q := by
  rw [show X_r10_Put_0 E n n0 0 ⟨[(15, x15), (4, x4), (3, x3), (2, x2), (1, x1), (0, x0)], y⟩ = X_r10_Put_0_0 E n n0 x15 x4 x3 x2 x1 x0 y by kernel_rfl]
  exact h
noncomputable def F_r10_Put (E : FnA) (n n0 : Nat) (a0 : AV) (bx : Bx) : Option (Ex × S) :=
  (boxA bx a0).bind fun r1 =>
  (some (AV.bsl (List.length r1.2) 0 0 0, r1.2 ++ [[]])).bind fun r2 =>
  (pv r2.2 (fieldAddrA Try.prog 26 r1.1 0)).bind fun r3 =>
  (pv r3.2 (loadA Try.prog 5 r3.2 r3.1)).bind fun r4 =>
  (pv r4.2 (fieldAddrA Try.prog 26 r1.1 1)).bind fun r5 =>
  (pv r5.2 (loadA Try.prog 5 r5.2 r5.1)).bind fun r6 =>
  (buildSliceA Try.prog r6.2 35 2 [(0, r4.1), (1, r6.1)]).bind fun r7 =>
  (pv r7.2 (fieldAddrA Try.prog 26 r1.1 2)).bind fun r8 =>
  (guardB (apartV (AV.bp (List.length r6.2) 0) r8.1 && true)).bind fun _ =>
  (pv r8.2 (loadA Try.prog 22 r8.2 r8.1)).bind fun r9 =>
  (guardB (apartV (AV.bp (List.length r6.2) 0) (callAd [r9.1]) && true)).bind fun _ =>
  (callA E md0 r9.2 29 [r9.1]).bind fun r10 =>
  (appA Try.prog n0 r10.2 35 r7.1 r10.1).bind fun r11 =>
  exitA (iter ⟨[(4, (.v (Go.Value.int Go.IntKind.i64 0))), (3, r11.1), (2, (r11.2.1 r2.1)), (1, (r11.2.1 r1.1)), (0, (r11.2.1 a0))], r11.2.2⟩ (L_r10_Put_0 E n n0) n ⟨[(4, (.v (Go.Value.int Go.IntKind.i64 0))), (3, r11.1), (2, (r11.2.1 r2.1)), (1, (r11.2.1 r1.1)), (0, (r11.2.1 a0))], r11.2.2⟩) (K_r10_Put_0 E n n0) (X_r10_Put_0 E n n0)
theorem c_r10_Put_eq : Try.f17.body = some c_r10_Put := by kernel_rfl
theorem d_r10_Put : drawsOk Try.prog md0 c_r10_Put = true := by kernel_rfl
theorem F_r10_Put_eq (E : FnA) (n n0 : Nat) (a0 : AV) (bx : Bx) : evK Try.prog md0 E 34 kp_r10_Put n n0 c_r10_Put ⟨[(0, a0)], bx⟩ (fun s => some (.normal, s)) (fun i s => some (.exit i, s)) = F_r10_Put E n n0 a0 bx := by kernel_rfl

theorem E_r10_Put (n : Nat) (a0 : AV) (bx : Bx) : evFn cx0 ext0 (n + 1) 17 [a0] bx = fin Try.prog [.tmp 2] (F_r10_Put (evFn cx0 ext0 n) n bx.length a0 bx) := by
  rw [evFn_eq2 (cx := cx0) (c := c_r10_Put) rfl Try.func17 c_r10_Put_eq (of_decide_eq_true (by kernel_rfl)) d_r10_Put (of_decide_eq_true (by kernel_rfl))]
  exact congrArg (fin Try.prog [.tmp 2]) (F_r10_Put_eq (evFn cx0 ext0 n) n bx.length a0 bx)

/-- scupper/inode.Get -/
def kp_inode_Get : Option (List Nat) := some [0, 1, 2, 3, 4, 6, 28, 29, 30]
noncomputable def c_inode_Get : Code := Try.f18.body.getD .skip
noncomputable def L_inode_Get_0 (E : FnA) (_n _n0 : Nat) (s : S) : Option (Ex × S) :=
  (pv s.bx (binA Try.prog .lss 3 (get s.env 29) (.v (Go.Value.int Go.IntKind.i64 6)))).bind fun r37 =>
  condA r37.1 ((pv r37.2 (indexA Try.prog 68 (get (prune kp_inode_Get s.env) 28) (get (prune kp_inode_Get s.env) 29))).bind fun r38 =>
  (pv r38.2 (sliceA Try.prog r38.2 40 (get (prune kp_inode_Get (prune kp_inode_Get s.env)) 1) none none none)).bind fun r39 =>
  (callA E md0 r39.2 32 [r39.1, (get (prune kp_inode_Get (prune kp_inode_Get s.env)) 4)]).bind fun r40 =>
  (pv r40.2 (tupA r40.1 0)).bind fun r41 =>
  (pv r41.2 (tupA r40.1 1)).bind fun r42 =>
  (pv r42.2 (nilA r38.1)).bind fun r43 =>
  (stA Try.prog 23 r43.2 r43.1 r41.1).bind fun r44 =>
  (pv r44.2 (binA Try.prog .add 3 (get (prune kp_inode_Get (prune kp_inode_Get (prune kp_inode_Get s.env))) 4) (.v (Go.Value.int Go.IntKind.i64 2)))).bind fun r45 =>
  (pv r45.2 (binA Try.prog .add 3 (get (prune kp_inode_Get (prune kp_inode_Get (prune kp_inode_Get (prune kp_inode_Get s.env)))) 29) (.v (Go.Value.int Go.IntKind.i64 1)))).bind fun r46 =>
  some (.normal, ⟨((29, r46.1) :: (4, r45.1) :: (6, r38.1) :: (30, r37.1) :: (prune kp_inode_Get (prune kp_inode_Get (prune kp_inode_Get (prune kp_inode_Get (prune kp_inode_Get s.env)))))), r46.2⟩)) (some (.exit 0, ⟨((30, r37.1) :: (prune kp_inode_Get s.env)), r37.2⟩))
noncomputable def B_inode_Get_0 (E : FnA) (_n _n0 : Nat) (x29 x28 x4 x3 x2 x1 x0 : AV) (y : Bx) : Option (Ex × S) :=
  (pv y (binA Try.prog .lss 3 x29 (.v (Go.Value.int Go.IntKind.i64 6)))).bind fun r27 =>
  condA r27.1 ((pv r27.2 (indexA Try.prog 68 x28 x29)).bind fun r28 =>
  (pv r28.2 (sliceA Try.prog r28.2 40 x1 none none none)).bind fun r29 =>
  (callA E md0 r29.2 32 [r29.1, x4]).bind fun r30 =>
  (pv r30.2 (tupA r30.1 0)).bind fun r31 =>
  (pv r31.2 (tupA r30.1 1)).bind fun r32 =>
  (pv r32.2 (nilA r28.1)).bind fun r33 =>
  (stA Try.prog 23 r33.2 r33.1 r31.1).bind fun r34 =>
  (pv r34.2 (binA Try.prog .add 3 x4 (.v (Go.Value.int Go.IntKind.i64 2)))).bind fun r35 =>
  (pv r35.2 (binA Try.prog .add 3 x29 (.v (Go.Value.int Go.IntKind.i64 1)))).bind fun r36 =>
  some (.normal, ⟨[(29, r36.1), (4, r35.1), (6, r28.1), (30, r27.1), (29, x29), (28, x28), (4, x4), (3, x3), (2, x2), (1, x1), (0, x0)], r36.2⟩)) (some (.exit 0, ⟨[(30, r27.1), (29, x29), (28, x28), (4, x4), (3, x3), (2, x2), (1, x1), (0, x0)], r27.2⟩))
theorem L_inode_Get_0_lit {E : FnA} {n n0 : Nat} {x29 x28 x4 x3 x2 x1 x0 : AV} {y : Bx} {Q : Ex → S → Prop} (h : Ends (B_inode_Get_0 E n n0 x29 x28 x4 x3 x2 x1 x0 y) Q) : Ends (L_inode_Get_0 E n n0 ⟨[(29, x29), (28, x28), (4, x4), (3, x3), (2, x2), (1, x1), (0, x0)], y⟩) Q := by
  rw [show L_inode_Get_0 E n n0 ⟨[(29, x29), (28, x28), (4, x4), (3, x3), (2, x2), (1, x1), (0, x0)], y⟩ = B_inode_Get_0 E n n0 x29 x28 x4 x3 x2 x1 x0 y by kernel_rfl]
  exact h
noncomputable def K_inode_Get_0 (_E : FnA) (_n _n0 : Nat) (t : S) : Option (Ex × S) :=
  (pv t.bx (loadA Try.prog 26 t.bx (get t.env 3))).bind fun r49 =>
  (stA Try.prog 26 r49.2 (get t.env 2) r49.1).bind fun r50 =>
  some (.ret, ⟨(prune kp_inode_Get t.env), r50.2⟩)
noncomputable def X_inode_Get_0 (_E : FnA) (_n _n0 : Nat) (i : Nat) (t : S) : Option (Ex × S) :=
  if i = 0 then (pv t.bx (loadA Try.prog 26 t.bx (get t.env 3))).bind fun r47 =>
  (stA Try.prog 26 r47.2 (get t.env 2) r47.1).bind fun r48 =>
  some (.ret, ⟨(prune kp_inode_Get t.env), r48.2⟩) else some (.exit i, ⟨t.env, t.bx⟩)
noncomputable def X_inode_Get_0_0 (_E : FnA) (_n _n0 : Nat) (x30 x29 x28 x4 x3 x2 x1 x0 : AV) (y : Bx) : Option (Ex × S) :=
  (pv y (loadA Try.prog 26 y x3)).bind fun r51 =>
  (stA Try.prog 26 r51.2 x2 r51.1).bind fun r52 =>
  some (.ret, ⟨[(30, x30), (29, x29), (28, x28), (4, x4), (3, x3), (2, x2), (1, x1), (0, x0)], r52.2⟩)
theorem X_inode_Get_0_0_lit {E : FnA} {n n0 : Nat} {x30 x29 x28 x4 x3 x2 x1 x0 : AV} {y : Bx} {Q : Ex → S → Prop} (h : Ends (X_inode_Get_0_0 E n n0 x30 x29 x28 x4 x3 x2 x1 x0 y) Q) : Ends (X_inode_Get_0 E n n0 0 ⟨[(30, x30), (29, x29), (28, x28), (4, x4), (3, x3), (2, x2), (1, x1), (0, x0)], y⟩) Q := by
  rw [show X_inode_Get_0 E n n0 0 ⟨[(30, x30), (29, x29), (28, x28), (4, x4), (3, x3), (2, x2), (1, x1), (0, x0)], y⟩ = X_inode_Get_0_0 E n n0 x30 x29 x28 x4 x3 x2 x1 x0 y by kernel_rfl]
  exact h
noncomputable def F_inode_Get (E : FnA) (n n0 : Nat) (a0 : AV) (bx : Bx) : Option (Ex × S) :=
  (boxA bx a0).bind fun r1 =>
  (allocA Try.prog r1.2 26).bind fun r2 =>
  (pv r2.2 (indexAddrA Try.prog 40 r1.1 (.v (Go.Value.int Go.IntKind.i64 0)))).bind fun r3 =>
  (pv r3.2 (loadA Try.prog 5 r3.2 r3.1)).bind fun r4 =>
  (pv r4.2 (indexAddrA Try.prog 40 r1.1 (.v (Go.Value.int Go.IntKind.i64 1)))).bind fun r5 =>
  (pv r5.2 (loadA Try.prog 5 r5.2 r5.1)).bind fun r6 =>
  (pv r6.2 (buildA Try.prog 26 [(0, r4.1), (1, r6.1)])).bind fun r7 =>
  (allocA Try.prog r7.2 26).bind fun r8 =>
  (stA Try.prog 26 r8.2 r8.1 r7.1).bind fun r9 =>
  (pv r9.2 (sliceA Try.prog r9.2 40 r1.1 none none none)).bind fun r10 =>
  (callA E md0 r10.2 31 [r10.1, (.v (Go.Value.int Go.IntKind.i64 2))]).bind fun r11 =>
  (pv r11.2 (tupA r11.1 0)).bind fun r12 =>
  (pv r12.2 (tupA r11.1 1)).bind fun r13 =>
  (pv r13.2 (fieldAddrA Try.prog 26 r8.1 2)).bind fun r14 =>
  (stA Try.prog 22 r14.2 r14.1 r12.1).bind fun r15 =>
  (pv r15.2 (fieldAddrA Try.prog 26 r8.1 3)).bind fun r16 =>
  (pv r16.2 (indexAddrA Try.prog 24 r16.1 (.v (Go.Value.int Go.IntKind.i64 0)))).bind fun r17 =>
  (pv r17.2 (fieldAddrA Try.prog 26 r8.1 3)).bind fun r18 =>
  (pv r18.2 (indexAddrA Try.prog 24 r18.1 (.v (Go.Value.int Go.IntKind.i64 1)))).bind fun r19 =>
  (pv r19.2 (fieldAddrA Try.prog 26 r8.1 3)).bind fun r20 =>
  (pv r20.2 (indexAddrA Try.prog 24 r20.1 (.v (Go.Value.int Go.IntKind.i64 2)))).bind fun r21 =>
  (pv r21.2 (fieldAddrA Try.prog 26 r8.1 3)).bind fun r22 =>
  (pv r22.2 (indexAddrA Try.prog 24 r22.1 (.v (Go.Value.int Go.IntKind.i64 3)))).bind fun r23 =>
  (pv r23.2 (fieldAddrA Try.prog 26 r8.1 4)).bind fun r24 =>
  (pv r24.2 (fieldAddrA Try.prog 26 r8.1 5)).bind fun r25 =>
  (pv r25.2 (buildA Try.prog 68 [(0, r17.1), (1, r19.1), (2, r21.1), (3, r23.1), (4, r24.1), (5, r25.1)])).bind fun r26 =>
  exitA (iter ⟨[(29, (.v (Go.Value.int Go.IntKind.i64 0))), (28, r26.1), (4, (.v (Go.Value.int Go.IntKind.i64 6))), (3, r8.1), (2, r2.1), (1, r1.1), (0, a0)], r26.2⟩ (L_inode_Get_0 E n n0) n ⟨[(29, (.v (Go.Value.int Go.IntKind.i64 0))), (28, r26.1), (4, (.v (Go.Value.int Go.IntKind.i64 6))), (3, r8.1), (2, r2.1), (1, r1.1), (0, a0)], r26.2⟩) (K_inode_Get_0 E n n0) (X_inode_Get_0 E n n0)
theorem c_inode_Get_eq : Try.f18.body = some c_inode_Get := by kernel_rfl
theorem d_inode_Get : drawsOk Try.prog md0 c_inode_Get = true := by kernel_rfl
theorem F_inode_Get_eq (E : FnA) (n n0 : Nat) (a0 : AV) (bx : Bx) : evK Try.prog md0 E 44 kp_inode_Get n n0 c_inode_Get ⟨[(0, a0)], bx⟩ (fun s => some (.normal, s)) (fun i s => some (.exit i, s)) = F_inode_Get E n n0 a0 bx := by kernel_rfl

theorem E_inode_Get (n : Nat) (a0 : AV) (bx : Bx) : evFn cx0 ext0 (n + 1) 18 [a0] bx = fin Try.prog [.cell 2 26] (F_inode_Get (evFn cx0 ext0 n) n bx.length a0 bx) := by
  rw [evFn_eq2 (cx := cx0) (c := c_inode_Get) rfl Try.func18 c_inode_Get_eq (of_decide_eq_true (by kernel_rfl)) d_inode_Get (of_decide_eq_true (by kernel_rfl))]
  exact congrArg (fin Try.prog [.cell 2 26]) (F_inode_Get_eq (evFn cx0 ext0 n) n bx.length a0 bx)

/-- scupper/scupperref10.Get -/
def kp_r10_Get : Option (List Nat) := some [0, 2, 3, 4, 19]
noncomputable def c_r10_Get : Code := Try.f19.body.getD .skip
noncomputable def L_r10_Get_0 (E : FnA) (_n _n0 : Nat) (s : S) : Option (Ex × S) :=
  (pv s.bx (binA Try.prog .lss 3 (get s.env 4) (.v (Go.Value.int Go.IntKind.i64 4)))).bind fun r24 =>
  condA r24.1 ((pv r24.2 (binA Try.prog .mul 3 (.v (Go.Value.int Go.IntKind.i64 2)) (get (prune kp_r10_Get s.env) 4))).bind fun r25 =>
  (pv r25.2 (binA Try.prog .add 3 (.v (Go.Value.int Go.IntKind.i64 6)) r25.1)).bind fun r26 =>
  (callA E md0 r26.2 34 [(get (prune kp_r10_Get s.env) 0), r26.1]).bind fun r27 =>
  (pv r27.2 (tupA r27.1 0)).bind fun r28 =>
  (pv r28.2 (tupA r27.1 1)).bind fun r29 =>
  (pv r29.2 (fieldAddrA Try.prog 26 (get (prune kp_r10_Get s.env) 3) 3)).bind fun r30 =>
  (pv r30.2 (indexAddrA Try.prog 24 r30.1 (get (prune kp_r10_Get s.env) 4))).bind fun r31 =>
  (stA Try.prog 23 r31.2 r31.1 r28.1).bind fun r32 =>
  (pv r32.2 (binA Try.prog .add 3 (get (prune kp_r10_Get (prune kp_r10_Get s.env)) 4) (.v (Go.Value.int Go.IntKind.i64 1)))).bind fun r33 =>
  some (.normal, ⟨((4, r33.1) :: (19, r24.1) :: (prune kp_r10_Get (prune kp_r10_Get (prune kp_r10_Get s.env)))), r33.2⟩)) (some (.exit 0, ⟨((19, r24.1) :: (prune kp_r10_Get s.env)), r24.2⟩))
noncomputable def B_r10_Get_0 (E : FnA) (_n _n0 : Nat) (x4 x3 x2 x0 : AV) (y : Bx) : Option (Ex × S) :=
  (pv y (binA Try.prog .lss 3 x4 (.v (Go.Value.int Go.IntKind.i64 4)))).bind fun r14 =>
  condA r14.1 ((pv r14.2 (binA Try.prog .mul 3 (.v (Go.Value.int Go.IntKind.i64 2)) x4)).bind fun r15 =>
  (pv r15.2 (binA Try.prog .add 3 (.v (Go.Value.int Go.IntKind.i64 6)) r15.1)).bind fun r16 =>
  (callA E md0 r16.2 34 [x0, r16.1]).bind fun r17 =>
  (pv r17.2 (tupA r17.1 0)).bind fun r18 =>
  (pv r18.2 (tupA r17.1 1)).bind fun r19 =>
  (pv r19.2 (fieldAddrA Try.prog 26 x3 3)).bind fun r20 =>
  (pv r20.2 (indexAddrA Try.prog 24 r20.1 x4)).bind fun r21 =>
  (stA Try.prog 23 r21.2 r21.1 r18.1).bind fun r22 =>
  (pv r22.2 (binA Try.prog .add 3 x4 (.v (Go.Value.int Go.IntKind.i64 1)))).bind fun r23 =>
  some (.normal, ⟨[(4, r23.1), (19, r14.1), (4, x4), (3, x3), (2, x2), (0, x0)], r23.2⟩)) (some (.exit 0, ⟨[(19, r14.1), (4, x4), (3, x3), (2, x2), (0, x0)], r14.2⟩))
theorem L_r10_Get_0_lit {E : FnA} {n n0 : Nat} {x4 x3 x2 x0 : AV} {y : Bx} {Q : Ex → S → Prop} (h : Ends (B_r10_Get_0 E n n0 x4 x3 x2 x0 y) Q) : Ends (L_r10_Get_0 E n n0 ⟨[(4, x4), (3, x3), (2, x2), (0, x0)], y⟩) Q := by
  rw [show L_r10_Get_0 E n n0 ⟨[(4, x4), (3, x3), (2, x2), (0, x0)], y⟩ = B_r10_Get_0 E n n0 x4 x3 x2 x0 y by kernel_rfl]
  exact h
noncomputable def K_r10_Get_0 (E : FnA) (_n _n0 : Nat) (t : S) : Option (Ex × S) :=
  (callA E md0 t.bx 34 [(get t.env 0), (.v (Go.Value.int Go.IntKind.i64 14))]).bind fun r46 =>
  (pv r46.2 (tupA r46.1 0)).bind fun r47 =>
  (pv r47.2 (tupA r46.1 1)).bind fun r48 =>
  (pv r48.2 (fieldAddrA Try.prog 26 (get t.env 3) 4)).bind fun r49 =>
  (stA Try.prog 23 r49.2 r49.1 r47.1).bind fun r50 =>
  (callA E md0 r50.2 34 [(get (prune kp_r10_Get t.env) 0), (.v (Go.Value.int Go.IntKind.i64 16))]).bind fun r51 =>
  (pv r51.2 (tupA r51.1 0)).bind fun r52 =>
  (pv r52.2 (tupA r51.1 1)).bind fun r53 =>
  (pv r53.2 (fieldAddrA Try.prog 26 (get (prune kp_r10_Get t.env) 3) 5)).bind fun r54 =>
  (stA Try.prog 23 r54.2 r54.1 r52.1).bind fun r55 =>
  (pv r55.2 (loadA Try.prog 26 r55.2 (get (prune kp_r10_Get (prune kp_r10_Get t.env)) 3))).bind fun r56 =>
  (stA Try.prog 26 r56.2 (get (prune kp_r10_Get (prune kp_r10_Get t.env)) 2) r56.1).bind fun r57 =>
  some (.ret, ⟨(prune kp_r10_Get (prune kp_r10_Get (prune kp_r10_Get t.env))), r57.2⟩)
noncomputable def X_r10_Get_0 (E : FnA) (_n _n0 : Nat) (i : Nat) (t : S) : Option (Ex × S) :=
  if i = 0 then (callA E md0 t.bx 34 [(get t.env 0), (.v (Go.Value.int Go.IntKind.i64 14))]).bind fun r34 =>
  (pv r34.2 (tupA r34.1 0)).bind fun r35 =>
  (pv r35.2 (tupA r34.1 1)).bind fun r36 =>
  (pv r36.2 (fieldAddrA Try.prog 26 (get t.env 3) 4)).bind fun r37 =>
  (stA Try.prog 23 r37.2 r37.1 r35.1).bind fun r38 =>
  (callA E md0 r38.2 34 [(get (prune kp_r10_Get t.env) 0), (.v (Go.Value.int Go.IntKind.i64 16))]).bind fun r39 =>
  (pv r39.2 (tupA r39.1 0)).bind fun r40 =>
  (pv r40.2 (tupA r39.1 1)).bind fun r41 =>
  (pv r41.2 (fieldAddrA Try.prog 26 (get (prune kp_r10_Get t.env) 3) 5)).bind fun r42 =>
  (stA Try.prog 23 r42.2 r42.1 r40.1).bind fun r43 =>
  (pv r43.2 (loadA Try.prog 26 r43.2 (get (prune kp_r10_Get (prune kp_r10_Get t.env)) 3))).bind fun r44 =>
  (stA Try.prog 26 r44.2 (get (prune kp_r10_Get (prune kp_r10_Get t.env)) 2) r44.1).bind fun r45 =>
  some (.ret, ⟨(prune kp_r10_Get (prune kp_r10_Get (prune kp_r10_Get t.env))), r45.2⟩) else some (.exit i, ⟨t.env, t.bx⟩)
noncomputable def X_r10_Get_0_0 (E : FnA) (_n _n0 : Nat) (x19 x4 x3 x2 x0 : AV) (y : Bx) : Option (Ex × S) :=
  (callA E md0 y 34 [x0, (.v (Go.Value.int Go.IntKind.i64 14))]).bind fun r58 =>
  (pv r58.2 (tupA r58.1 0)).bind fun r59 =>
  (pv r59.2 (tupA r58.1 1)).bind fun r60 =>
  (pv r60.2 (fieldAddrA Try.prog 26 x3 4)).bind fun r61 =>
  (stA Try.prog 23 r61.2 r61.1 r59.1).bind fun r62 =>
  (callA E md0 r62.2 34 [x0, (.v (Go.Value.int Go.IntKind.i64 16))]).bind fun r63 =>
  (pv r63.2 (tupA r63.1 0)).bind fun r64 =>
  (pv r64.2 (tupA r63.1 1)).bind fun r65 =>
  (pv r65.2 (fieldAddrA Try.prog 26 x3 5)).bind fun r66 =>
  (stA Try.prog 23 r66.2 r66.1 r64.1).bind fun r67 =>
  (pv r67.2 (loadA Try.prog 26 r67.2 x3)).bind fun r68 =>
  (stA Try.prog 26 r68.2 x2 r68.1).bind fun r69 =>
  some (.ret, ⟨[(19, x19), (4, x4), (3, x3), (2, x2), (0, x0)], r69.2⟩)
theorem X_r10_Get_0_0_lit {E : FnA} {n n0 : Nat} {x19 x4 x3 x2 x0 : AV} {y : Bx} {Q : Ex → S → Prop} (h : Ends (X_r10_Get_0_0 E n n0 x19 x4 x3 x2 x0 y) Q) : Ends (X_r10_Get_0 E n n0 0 ⟨[(19, x19), (4, x4), (3, x3), (2, x2), (0, x0)], y⟩) Q := by
  rw [show X_r10_Get_0 E n n0 0 ⟨[(19, x19), (4, x4), (3, x3), (2, x2), (0, x0)], y⟩ = X_r10_Get_0_0 E n n0 x19 x4 x3 x2 x0 y by kernel_rfl]
  exact h
noncomputable def F_r10_Get (E : FnA) (n n0 : Nat) (a0 : AV) (bx : Bx) : Option (Ex × S) :=
  (allocA Try.prog bx 26).bind fun r1 =>
  (allocA Try.prog r1.2 26).bind fun r2 =>
  (pv r2.2 (indexAddrA Try.prog 35 a0 (.v (Go.Value.int Go.IntKind.i64 0)))).bind fun r3 =>
  (pv r3.2 (loadA Try.prog 5 r3.2 r3.1)).bind fun r4 =>
  (pv r4.2 (indexAddrA Try.prog 35 a0 (.v (Go.Value.int Go.IntKind.i64 1)))).bind fun r5 =>
  (pv r5.2 (loadA Try.prog 5 r5.2 r5.1)).bind fun r6 =>
  (pv r6.2 (buildA Try.prog 26 [(0, r4.1), (1, r6.1)])).bind fun r7 =>
  (stA Try.prog 26 r7.2 r2.1 r7.1).bind fun r8 =>
  (callA E md0 r8.2 33 [a0, (.v (Go.Value.int Go.IntKind.i64 2))]).bind fun r9 =>
  (pv r9.2 (tupA r9.1 0)).bind fun r10 =>
  (pv r10.2 (tupA r9.1 1)).bind fun r11 =>
  (pv r11.2 (fieldAddrA Try.prog 26 r2.1 2)).bind fun r12 =>
  (stA Try.prog 22 r12.2 r12.1 r10.1).bind fun r13 =>
  exitA (iter ⟨[(4, (.v (Go.Value.int Go.IntKind.i64 0))), (3, r2.1), (2, r1.1), (0, a0)], r13.2⟩ (L_r10_Get_0 E n n0) n ⟨[(4, (.v (Go.Value.int Go.IntKind.i64 0))), (3, r2.1), (2, r1.1), (0, a0)], r13.2⟩) (K_r10_Get_0 E n n0) (X_r10_Get_0 E n n0)
theorem c_r10_Get_eq : Try.f19.body = some c_r10_Get := by kernel_rfl
theorem d_r10_Get : drawsOk Try.prog md0 c_r10_Get = true := by kernel_rfl
theorem F_r10_Get_eq (E : FnA) (n n0 : Nat) (a0 : AV) (bx : Bx) : evK Try.prog md0 E 46 kp_r10_Get n n0 c_r10_Get ⟨[(0, a0)], bx⟩ (fun s => some (.normal, s)) (fun i s => some (.exit i, s)) = F_r10_Get E n n0 a0 bx := by kernel_rfl

theorem E_r10_Get (n : Nat) (a0 : AV) (bx : Bx) : evFn cx0 ext0 (n + 1) 19 [a0] bx = fin Try.prog [.cell 2 26] (F_r10_Get (evFn cx0 ext0 n) n bx.length a0 bx) := by
  rw [evFn_eq2 (cx := cx0) (c := c_r10_Get) rfl Try.func19 c_r10_Get_eq (of_decide_eq_true (by kernel_rfl)) d_r10_Get (of_decide_eq_true (by kernel_rfl))]
  exact congrArg (fin Try.prog [.cell 2 26]) (F_r10_Get_eq (evFn cx0 ext0 n) n bx.length a0 bx)

/-- scupper/inode.At -/
def kp_inode_At : Option (List Nat) := some [0, 1, 2, 4, 5, 8]
noncomputable def c_inode_At : Code := Try.f20.body.getD .skip
noncomputable def F_inode_At (E : FnA) (_n _n0 : Nat) (a0 a1 : AV) (bx : Bx) : Option (Ex × S) :=
  (boxA bx a0).bind fun r1 =>
  (allocA Try.prog r1.2 26).bind fun r2 =>
  (callA E md0 r2.2 25 [a1]).bind fun r3 =>
  (pv r3.2 (unA .not r3.1)).bind fun r4 =>
  condA r4.1 ((pv r4.2 (buildA Try.prog 26 [])).bind fun r5 =>
  (stA Try.prog 26 r5.2 r2.1 r5.1).bind fun r6 =>
  some (.ret, ⟨[(5, (.v (Go.Value.int Go.IntKind.i64 2))), (8, r4.1), (5, (.v (Go.Value.int Go.IntKind.i64 0))), (4, r2.1), (2, r1.1), (0, a0), (1, a1)], r6.2⟩)) ((pv r4.2 (binA Try.prog .mul 3 (.v (Go.Value.int Go.IntKind.i64 18)) a1)).bind fun r7 =>
  (pv r7.2 (sliceA Try.prog r7.2 47 r1.1 (some r7.1) none none)).bind fun r8 =>
  (pv r8.2 (arrPtrA Try.prog 40 r8.1)).bind fun r9 =>
  (pv r9.2 (loadA Try.prog 40 r9.2 r9.1)).bind fun r10 =>
  (callA E md0 r10.2 18 [r10.1]).bind fun r11 =>
  (stA Try.prog 26 r11.2 r2.1 r11.1).bind fun r12 =>
  some (.ret, ⟨[(5, (.v (Go.Value.int Go.IntKind.i64 0))), (8, r4.1), (5, (.v (Go.Value.int Go.IntKind.i64 0))), (4, r2.1), (2, r1.1), (0, a0), (1, a1)], r12.2⟩))
theorem c_inode_At_eq : Try.f20.body = some c_inode_At := by kernel_rfl
theorem d_inode_At : drawsOk Try.prog md0 c_inode_At = true := by kernel_rfl
theorem F_inode_At_eq (E : FnA) (n n0 : Nat) (a0 a1 : AV) (bx : Bx) : evK Try.prog md0 E 16 kp_inode_At n n0 c_inode_At ⟨[(0, a0), (1, a1)], bx⟩ (fun s => some (.normal, s)) (fun i s => some (.exit i, s)) = F_inode_At E n n0 a0 a1 bx := by kernel_rfl

theorem E_inode_At (n : Nat) (a0 a1 : AV) (bx : Bx) : evFn cx0 ext0 (n + 1) 20 [a0, a1] bx = fin Try.prog [.cell 4 26, .tmp 5] (F_inode_At (evFn cx0 ext0 n) n bx.length a0 a1 bx) := by
  rw [evFn_eq2 (cx := cx0) (c := c_inode_At) rfl Try.func20 c_inode_At_eq (of_decide_eq_true (by kernel_rfl)) d_inode_At (of_decide_eq_true (by kernel_rfl))]
  exact congrArg (fin Try.prog [.cell 4 26, .tmp 5]) (F_inode_At_eq (evFn cx0 ext0 n) n bx.length a0 a1 bx)

/-- scupper/scupperref10.At -/
def kp_r10_At : Option (List Nat) := some [0, 1, 2, 4, 5, 11]
noncomputable def c_r10_At : Code := Try.f21.body.getD .skip
noncomputable def F_r10_At (E : FnA) (_n _n0 : Nat) (a0 a1 : AV) (bx : Bx) : Option (Ex × S) :=
  (boxA bx a0).bind fun r1 =>
  (allocA Try.prog r1.2 26).bind fun r2 =>
  (pv r2.2 (binA Try.prog .lss 3 a1 (.v (Go.Value.int Go.IntKind.i64 0)))).bind fun r3 =>
  (gsel false r3.2 (some (a1, r3.2)) r3.1).bind fun r4 =>
  (gsel false r4.2 (pv r4.2 (binA Try.prog .gtr 3 r4.1 (.v (Go.Value.int Go.IntKind.i64 2)))) r3.1).bind fun r5 =>
  (pv r5.2 (pickA r3.1 (.v (Go.Value.bool true)) r5.1)).bind fun r6 =>
  condA r6.1 ((pv r6.2 (buildA Try.prog 26 [])).bind fun r7 =>
  (stA Try.prog 26 r7.2 r2.1 r7.1).bind fun r8 =>
  some (.ret, ⟨[(5, (.v (Go.Value.int Go.IntKind.i64 2))), (11, r6.1), (5, (.v (Go.Value.int Go.IntKind.i64 0))), (4, r2.1), (2, r1.1), (0, a0), (1, a1)], r8.2⟩)) ((pv r6.2 (binA Try.prog .mul 3 (.v (Go.Value.int Go.IntKind.i64 18)) a1)).bind fun r9 =>
  (pv r9.2 (binA Try.prog .mul 3 (.v (Go.Value.int Go.IntKind.i64 18)) a1)).bind fun r10 =>
  (pv r10.2 (binA Try.prog .add 3 r10.1 (.v (Go.Value.int Go.IntKind.i64 18)))).bind fun r11 =>
  (pv r11.2 (sliceA Try.prog r11.2 47 r1.1 (some r9.1) (some r11.1) none)).bind fun r12 =>
  (callA E md0 r12.2 19 [r12.1]).bind fun r13 =>
  (stA Try.prog 26 r13.2 r2.1 r13.1).bind fun r14 =>
  some (.ret, ⟨[(5, (.v (Go.Value.int Go.IntKind.i64 0))), (11, r6.1), (5, (.v (Go.Value.int Go.IntKind.i64 0))), (4, r2.1), (2, r1.1), (0, a0), (1, a1)], r14.2⟩))
theorem c_r10_At_eq : Try.f21.body = some c_r10_At := by kernel_rfl
theorem d_r10_At : drawsOk Try.prog md0 c_r10_At = true := by kernel_rfl
theorem F_r10_At_eq (E : FnA) (n n0 : Nat) (a0 a1 : AV) (bx : Bx) : evK Try.prog md0 E 20 kp_r10_At n n0 c_r10_At ⟨[(0, a0), (1, a1)], bx⟩ (fun s => some (.normal, s)) (fun i s => some (.exit i, s)) = F_r10_At E n n0 a0 a1 bx := by kernel_rfl

theorem E_r10_At (n : Nat) (a0 a1 : AV) (bx : Bx) : evFn cx0 ext0 (n + 1) 21 [a0, a1] bx = fin Try.prog [.cell 4 26, .tmp 5] (F_r10_At (evFn cx0 ext0 n) n bx.length a0 a1 bx) := by
  rw [evFn_eq2 (cx := cx0) (c := c_r10_At) rfl Try.func21 c_r10_At_eq (of_decide_eq_true (by kernel_rfl)) d_r10_At (of_decide_eq_true (by kernel_rfl))]
  exact congrArg (fin Try.prog [.cell 4 26, .tmp 5]) (F_r10_At_eq (evFn cx0 ext0 n) n bx.length a0 a1 bx)

/-- scupper/inode.With -/
def kp_inode_With : Option (List Nat) := some [0, 1, 2, 3, 5, 6, 7, 8, 11]
noncomputable def c_inode_With : Code := Try.f22.body.getD .skip
noncomputable def F_inode_With (E : FnA) (_n _n0 : Nat) (a0 a1 a2 : AV) (bx : Bx) : Option (Ex × S) :=
  (boxA bx a0).bind fun r1 =>
  (boxA r1.2 a2).bind fun r2 =>
  (allocA Try.prog r2.2 47).bind fun r3 =>
  (callA E md0 r3.2 25 [a1]).bind fun r4 =>
  (pv r4.2 (unA .not r4.1)).bind fun r5 =>
  condA r5.1 ((pv r5.2 (buildA Try.prog 47 [])).bind fun r6 =>
  (stA Try.prog 47 r6.2 r3.1 r6.1).bind fun r7 =>
  some (.ret, ⟨[(7, (.v (Go.Value.int Go.IntKind.i64 2))), (11, r5.1), (7, (.v (Go.Value.int Go.IntKind.i64 0))), (6, r3.1), (5, r2.1), (3, r1.1), (0, a0), (1, a1), (2, a2)], r7.2⟩)) ((pv r5.2 (loadA Try.prog 26 r5.2 r2.1)).bind fun r8 =>
  (callA E md0 r8.2 16 [r8.1]).bind fun r9 =>
  (allocA Try.prog r9.2 40).bind fun r10 =>
  (stA Try.prog 40 r10.2 r10.1 r9.1).bind fun r11 =>
  (pv r11.2 (binA Try.prog .mul 3 (.v (Go.Value.int Go.IntKind.i64 18)) a1)).bind fun r12 =>
  (pv r12.2 (sliceA Try.prog r12.2 47 r1.1 (some r12.1) none none)).bind fun r13 =>
  (pv r13.2 (sliceA Try.prog r13.2 40 r10.1 none none none)).bind fun r14 =>
  (copyA Try.prog r14.2 35 r13.1 r14.1).bind fun r15 =>
  (pv r15.2 (loadA Try.prog 47 r15.2 r1.1)).bind fun r16 =>
  (stA Try.prog 47 r16.2 r3.1 r16.1).bind fun r17 =>
  some (.ret, ⟨[(7, (.v (Go.Value.int Go.IntKind.i64 0))), (8, r10.1), (11, r5.1), (7, (.v (Go.Value.int Go.IntKind.i64 0))), (6, r3.1), (5, r2.1), (3, r1.1), (0, a0), (1, a1), (2, a2)], r17.2⟩))
theorem c_inode_With_eq : Try.f22.body = some c_inode_With := by kernel_rfl
theorem d_inode_With : drawsOk Try.prog md0 c_inode_With = true := by kernel_rfl
theorem F_inode_With_eq (E : FnA) (n n0 : Nat) (a0 a1 a2 : AV) (bx : Bx) : evK Try.prog md0 E 21 kp_inode_With n n0 c_inode_With ⟨[(0, a0), (1, a1), (2, a2)], bx⟩ (fun s => some (.normal, s)) (fun i s => some (.exit i, s)) = F_inode_With E n n0 a0 a1 a2 bx := by kernel_rfl

theorem E_inode_With (n : Nat) (a0 a1 a2 : AV) (bx : Bx) : evFn cx0 ext0 (n + 1) 22 [a0, a1, a2] bx = fin Try.prog [.cell 6 47, .tmp 7] (F_inode_With (evFn cx0 ext0 n) n bx.length a0 a1 a2 bx) := by
  rw [evFn_eq2 (cx := cx0) (c := c_inode_With) rfl Try.func22 c_inode_With_eq (of_decide_eq_true (by kernel_rfl)) d_inode_With (of_decide_eq_true (by kernel_rfl))]
  exact congrArg (fin Try.prog [.cell 6 47, .tmp 7]) (F_inode_With_eq (evFn cx0 ext0 n) n bx.length a0 a1 a2 bx)

/-- scupper/scupperref10.With -/
def kp_r10_With : Option (List Nat) := some [0, 1, 2, 3, 5, 6, 7, 8, 9, 10, 16, 22]
noncomputable def c_r10_With : Code := Try.f23.body.getD .skip
noncomputable def L_r10_With_0 (_E : FnA) (_n _n0 : Nat) (s : S) : Option (Ex × S) :=
  (pv s.bx (binA Try.prog .lss 3 (get s.env 10) (.v (Go.Value.int Go.IntKind.i64 18)))).bind fun r23 =>
  condA r23.1 ((pv r23.2 (binA Try.prog .mul 3 (.v (Go.Value.int Go.IntKind.i64 18)) (get (prune kp_r10_With s.env) 1))).bind fun r24 =>
  (pv r24.2 (binA Try.prog .add 3 r24.1 (get (prune kp_r10_With s.env) 10))).bind fun r25 =>
  (pv r25.2 (indexAddrA Try.prog 35 (get (prune kp_r10_With s.env) 8) (get (prune kp_r10_With s.env) 10))).bind fun r26 =>
  (pv r26.2 (loadA Try.prog 5 r26.2 r26.1)).bind fun r27 =>
  (pv r27.2 (indexAddrA Try.prog 47 (get (prune kp_r10_With s.env) 9) r25.1)).bind fun r28 =>
  (stA Try.prog 5 r28.2 r28.1 r27.1).bind fun r29 =>
  (pv r29.2 (binA Try.prog .add 3 (get (prune kp_r10_With (prune kp_r10_With s.env)) 10) (.v (Go.Value.int Go.IntKind.i64 1)))).bind fun r30 =>
  some (.normal, ⟨((10, r30.1) :: (22, r23.1) :: (prune kp_r10_With (prune kp_r10_With (prune kp_r10_With s.env)))), r30.2⟩)) (some (.exit 0, ⟨((22, r23.1) :: (prune kp_r10_With s.env)), r23.2⟩))
noncomputable def B_r10_With_0 (_E : FnA) (_n _n0 : Nat) (x10 x9 x8 x16 x7 x6 x5 x3 x0 x1 x2 : AV) (y : Bx) : Option (Ex × S) :=
  (pv y (binA Try.prog .lss 3 x10 (.v (Go.Value.int Go.IntKind.i64 18)))).bind fun r15 =>
  condA r15.1 ((pv r15.2 (binA Try.prog .mul 3 (.v (Go.Value.int Go.IntKind.i64 18)) x1)).bind fun r16 =>
  (pv r16.2 (binA Try.prog .add 3 r16.1 x10)).bind fun r17 =>
  (pv r17.2 (indexAddrA Try.prog 35 x8 x10)).bind fun r18 =>
  (pv r18.2 (loadA Try.prog 5 r18.2 r18.1)).bind fun r19 =>
  (pv r19.2 (indexAddrA Try.prog 47 x9 r17.1)).bind fun r20 =>
  (stA Try.prog 5 r20.2 r20.1 r19.1).bind fun r21 =>
  (pv r21.2 (binA Try.prog .add 3 x10 (.v (Go.Value.int Go.IntKind.i64 1)))).bind fun r22 =>
  some (.normal, ⟨[(10, r22.1), (22, r15.1), (10, x10), (9, x9), (8, x8), (16, x16), (7, x7), (6, x6), (5, x5), (3, x3), (0, x0), (1, x1), (2, x2)], r22.2⟩)) (some (.exit 0, ⟨[(22, r15.1), (10, x10), (9, x9), (8, x8), (16, x16), (7, x7), (6, x6), (5, x5), (3, x3), (0, x0), (1, x1), (2, x2)], r15.2⟩))
theorem L_r10_With_0_lit {E : FnA} {n n0 : Nat} {x10 x9 x8 x16 x7 x6 x5 x3 x0 x1 x2 : AV} {y : Bx} {Q : Ex → S → Prop} (h : Ends (B_r10_With_0 E n n0 x10 x9 x8 x16 x7 x6 x5 x3 x0 x1 x2 y) Q) : Ends (L_r10_With_0 E n n0 ⟨[(10, x10), (9, x9), (8, x8), (16, x16), (7, x7), (6, x6), (5, x5), (3, x3), (0, x0), (1, x1), (2, x2)], y⟩) Q := by
  rw [show L_r10_With_0 E n n0 ⟨[(10, x10), (9, x9), (8, x8), (16, x16), (7, x7), (6, x6), (5, x5), (3, x3), (0, x0), (1, x1), (2, x2)], y⟩ = B_r10_With_0 E n n0 x10 x9 x8 x16 x7 x6 x5 x3 x0 x1 x2 y by kernel_rfl]
  exact h
noncomputable def K_r10_With_0 (_E : FnA) (_n _n0 : Nat) (t : S) : Option (Ex × S) :=
  (pv t.bx (loadA Try.prog 47 t.bx (get t.env 9))).bind fun r33 =>
  (stA Try.prog 47 r33.2 (get t.env 6) r33.1).bind fun r34 =>
  some (.ret, ⟨((7, (.v (Go.Value.int Go.IntKind.i64 0))) :: (prune kp_r10_With t.env)), r34.2⟩)
noncomputable def X_r10_With_0 (_E : FnA) (_n _n0 : Nat) (i : Nat) (t : S) : Option (Ex × S) :=
  if i = 0 then (pv t.bx (loadA Try.prog 47 t.bx (get t.env 9))).bind fun r31 =>
  (stA Try.prog 47 r31.2 (get t.env 6) r31.1).bind fun r32 =>
  some (.ret, ⟨((7, (.v (Go.Value.int Go.IntKind.i64 0))) :: (prune kp_r10_With t.env)), r32.2⟩) else some (.exit i, ⟨t.env, t.bx⟩)
noncomputable def X_r10_With_0_0 (_E : FnA) (_n _n0 : Nat) (x22 x10 x9 x8 x16 x7 x6 x5 x3 x0 x1 x2 : AV) (y : Bx) : Option (Ex × S) :=
  (pv y (loadA Try.prog 47 y x9)).bind fun r35 =>
  (stA Try.prog 47 r35.2 x6 r35.1).bind fun r36 =>
  some (.ret, ⟨[(7, (.v (Go.Value.int Go.IntKind.i64 0))), (22, x22), (10, x10), (9, x9), (8, x8), (16, x16), (7, x7), (6, x6), (5, x5), (3, x3), (0, x0), (1, x1), (2, x2)], r36.2⟩)
theorem X_r10_With_0_0_lit {E : FnA} {n n0 : Nat} {x22 x10 x9 x8 x16 x7 x6 x5 x3 x0 x1 x2 : AV} {y : Bx} {Q : Ex → S → Prop} (h : Ends (X_r10_With_0_0 E n n0 x22 x10 x9 x8 x16 x7 x6 x5 x3 x0 x1 x2 y) Q) : Ends (X_r10_With_0 E n n0 0 ⟨[(22, x22), (10, x10), (9, x9), (8, x8), (16, x16), (7, x7), (6, x6), (5, x5), (3, x3), (0, x0), (1, x1), (2, x2)], y⟩) Q := by
  rw [show X_r10_With_0 E n n0 0 ⟨[(22, x22), (10, x10), (9, x9), (8, x8), (16, x16), (7, x7), (6, x6), (5, x5), (3, x3), (0, x0), (1, x1), (2, x2)], y⟩ = X_r10_With_0_0 E n n0 x22 x10 x9 x8 x16 x7 x6 x5 x3 x0 x1 x2 y by kernel_rfl]
  exact h
noncomputable def F_r10_With (E : FnA) (n n0 : Nat) (a0 a1 a2 : AV) (bx : Bx) : Option (Ex × S) :=
  (boxA bx a0).bind fun r1 =>
  (boxA r1.2 a2).bind fun r2 =>
  (allocA Try.prog r2.2 47).bind fun r3 =>
  (pv r3.2 (binA Try.prog .lss 3 a1 (.v (Go.Value.int Go.IntKind.i64 0)))).bind fun r4 =>
  (gsel false r4.2 (some (a1, r4.2)) r4.1).bind fun r5 =>
  (gsel false r5.2 (pv r5.2 (binA Try.prog .gtr 3 r5.1 (.v (Go.Value.int Go.IntKind.i64 2)))) r4.1).bind fun r6 =>
  (pv r6.2 (pickA r4.1 (.v (Go.Value.bool true)) r6.1)).bind fun r7 =>
  condA r7.1 ((pv r7.2 (buildA Try.prog 47 [])).bind fun r8 =>
  (stA Try.prog 47 r8.2 r3.1 r8.1).bind fun r9 =>
  some (.ret, ⟨[(7, (.v (Go.Value.int Go.IntKind.i64 2))), (16, r7.1), (7, (.v (Go.Value.int Go.IntKind.i64 0))), (6, r3.1), (5, r2.1), (3, r1.1), (0, a0), (1, a1), (2, a2)], r9.2⟩)) ((pv r7.2 (loadA Try.prog 26 r7.2 r2.1)).bind fun r10 =>
  (callA E md0 r10.2 17 [r10.1]).bind fun r11 =>
  (pv r11.2 (loadA Try.prog 47 r11.2 r1.1)).bind fun r12 =>
  (allocA Try.prog r12.2 47).bind fun r13 =>
  (stA Try.prog 47 r13.2 r13.1 r12.1).bind fun r14 =>
  exitA (iter ⟨[(10, (.v (Go.Value.int Go.IntKind.i64 0))), (9, r13.1), (8, r11.1), (16, r7.1), (7, (.v (Go.Value.int Go.IntKind.i64 0))), (6, r3.1), (5, r2.1), (3, r1.1), (0, a0), (1, a1), (2, a2)], r14.2⟩ (L_r10_With_0 E n n0) n ⟨[(10, (.v (Go.Value.int Go.IntKind.i64 0))), (9, r13.1), (8, r11.1), (16, r7.1), (7, (.v (Go.Value.int Go.IntKind.i64 0))), (6, r3.1), (5, r2.1), (3, r1.1), (0, a0), (1, a1), (2, a2)], r14.2⟩) (K_r10_With_0 E n n0) (X_r10_With_0 E n n0))
theorem c_r10_With_eq : Try.f23.body = some c_r10_With := by kernel_rfl
theorem d_r10_With : drawsOk Try.prog md0 c_r10_With = true := by kernel_rfl
theorem F_r10_With_eq (E : FnA) (n n0 : Nat) (a0 a1 a2 : AV) (bx : Bx) : evK Try.prog md0 E 35 kp_r10_With n n0 c_r10_With ⟨[(0, a0), (1, a1), (2, a2)], bx⟩ (fun s => some (.normal, s)) (fun i s => some (.exit i, s)) = F_r10_With E n n0 a0 a1 a2 bx := by kernel_rfl

theorem E_r10_With (n : Nat) (a0 a1 a2 : AV) (bx : Bx) : evFn cx0 ext0 (n + 1) 23 [a0, a1, a2] bx = fin Try.prog [.cell 6 47, .tmp 7] (F_r10_With (evFn cx0 ext0 n) n bx.length a0 a1 a2 bx) := by
  rw [evFn_eq2 (cx := cx0) (c := c_r10_With) rfl Try.func23 c_r10_With_eq (of_decide_eq_true (by kernel_rfl)) d_r10_With (of_decide_eq_true (by kernel_rfl))]
  exact congrArg (fin Try.prog [.cell 6 47, .tmp 7]) (F_r10_With_eq (evFn cx0 ext0 n) n bx.length a0 a1 a2 bx)

/-- scupper/inode.field -/
def kp_inode_field : Option (List Nat) := some [0, 2, 3, 4, 5, 8, 11, 14, 25]
noncomputable def c_inode_field : Code := Try.f24.body.getD .skip
noncomputable def F_inode_field (_E : FnA) (_n _n0 : Nat) (a0 : AV) (bx : Bx) : Option (Ex × S) :=
  (pv bx (binA Try.prog .eql 33 a0 (.v (Go.Value.int Go.IntKind.i64 0)))).bind fun r1 =>
  condA r1.1 (some (.ret, ⟨[(4, (.v (Go.Value.bool true))), (3, (.v (Go.Value.int Go.IntKind.i64 18))), (2, (.v (Go.Value.int Go.IntKind.i64 0))), (5, r1.1), (4, (.v (Go.Value.bool false))), (3, (.v (Go.Value.int Go.IntKind.i64 0))), (2, (.v (Go.Value.int Go.IntKind.i64 0))), (0, a0)], r1.2⟩)) ((pv r1.2 (binA Try.prog .eql 33 a0 (.v (Go.Value.int Go.IntKind.i64 1)))).bind fun r2 =>
  condA r2.1 (some (.ret, ⟨[(4, (.v (Go.Value.bool true))), (3, (.v (Go.Value.int Go.IntKind.i64 1))), (2, (.v (Go.Value.int Go.IntKind.i64 1))), (8, r2.1), (5, r1.1), (4, (.v (Go.Value.bool false))), (3, (.v (Go.Value.int Go.IntKind.i64 0))), (2, (.v (Go.Value.int Go.IntKind.i64 0))), (0, a0)], r2.2⟩)) ((pv r2.2 (binA Try.prog .eql 33 a0 (.v (Go.Value.int Go.IntKind.i64 2)))).bind fun r3 =>
  condA r3.1 (some (.ret, ⟨[(4, (.v (Go.Value.bool true))), (3, (.v (Go.Value.int Go.IntKind.i64 4))), (2, (.v (Go.Value.int Go.IntKind.i64 2))), (11, r3.1), (8, r2.1), (5, r1.1), (4, (.v (Go.Value.bool false))), (3, (.v (Go.Value.int Go.IntKind.i64 0))), (2, (.v (Go.Value.int Go.IntKind.i64 0))), (0, a0)], r3.2⟩)) ((pv r3.2 (binA Try.prog .geq 33 a0 (.v (Go.Value.int Go.IntKind.i64 3)))).bind fun r4 =>
  (gsel true r4.2 (some (a0, r4.2)) r4.1).bind fun r5 =>
  (gsel true r5.2 (pv r5.2 (binA Try.prog .leq 33 r5.1 (.v (Go.Value.int Go.IntKind.i64 8)))) r4.1).bind fun r6 =>
  (pv r6.2 (pickA r4.1 r6.1 (.v (Go.Value.bool false)))).bind fun r7 =>
  condA r7.1 ((pv r7.2 (binA Try.prog .sub 33 a0 (.v (Go.Value.int Go.IntKind.i64 3)))).bind fun r8 =>
  (pv r8.2 (binA Try.prog .mul 3 (.v (Go.Value.int Go.IntKind.i64 2)) r8.1)).bind fun r9 =>
  (pv r9.2 (binA Try.prog .add 3 (.v (Go.Value.int Go.IntKind.i64 6)) r9.1)).bind fun r10 =>
  some (.ret, ⟨[(4, (.v (Go.Value.bool true))), (3, (.v (Go.Value.int Go.IntKind.i64 2))), (2, r10.1), (14, r7.1), (11, r3.1), (8, r2.1), (5, r1.1), (4, (.v (Go.Value.bool false))), (3, (.v (Go.Value.int Go.IntKind.i64 0))), (2, (.v (Go.Value.int Go.IntKind.i64 0))), (0, a0)], r10.2⟩)) ((pv r7.2 (binA Try.prog .eql 33 a0 (.v (Go.Value.int Go.IntKind.i64 9)))).bind fun r11 =>
  condA r11.1 (some (.ret, ⟨[(4, (.v (Go.Value.bool true))), (3, (.v (Go.Value.int Go.IntKind.i64 16))), (2, (.v (Go.Value.int Go.IntKind.i64 2))), (25, r11.1), (14, r7.1), (11, r3.1), (8, r2.1), (5, r1.1), (4, (.v (Go.Value.bool false))), (3, (.v (Go.Value.int Go.IntKind.i64 0))), (2, (.v (Go.Value.int Go.IntKind.i64 0))), (0, a0)], r11.2⟩)) (some (.ret, ⟨[(4, (.v (Go.Value.bool false))), (3, (.v (Go.Value.int Go.IntKind.i64 0))), (2, (.v (Go.Value.int Go.IntKind.i64 0))), (25, r11.1), (14, r7.1), (11, r3.1), (8, r2.1), (5, r1.1), (4, (.v (Go.Value.bool false))), (3, (.v (Go.Value.int Go.IntKind.i64 0))), (2, (.v (Go.Value.int Go.IntKind.i64 0))), (0, a0)], r11.2⟩))))))
theorem c_inode_field_eq : Try.f24.body = some c_inode_field := by kernel_rfl
theorem d_inode_field : drawsOk Try.prog md0 c_inode_field = true := by kernel_rfl
theorem F_inode_field_eq (E : FnA) (n n0 : Nat) (a0 : AV) (bx : Bx) : evK Try.prog md0 E 28 kp_inode_field n n0 c_inode_field ⟨[(0, a0)], bx⟩ (fun s => some (.normal, s)) (fun i s => some (.exit i, s)) = F_inode_field E n n0 a0 bx := by kernel_rfl

theorem E_inode_field (n : Nat) (a0 : AV) (bx : Bx) : evFn cx0 ext0 (n + 1) 24 [a0] bx = fin Try.prog [.tmp 2, .tmp 3, .tmp 4] (F_inode_field (evFn cx0 ext0 n) n bx.length a0 bx) := by
  rw [evFn_eq2 (cx := cx0) (c := c_inode_field) rfl Try.func24 c_inode_field_eq (of_decide_eq_true (by kernel_rfl)) d_inode_field (of_decide_eq_true (by kernel_rfl))]
  exact congrArg (fin Try.prog [.tmp 2, .tmp 3, .tmp 4]) (F_inode_field_eq (evFn cx0 ext0 n) n bx.length a0 bx)

/-- scupper/inode.slot -/
def kp_inode_slot : Option (List Nat) := some [0, 2]
noncomputable def c_inode_slot : Code := Try.f25.body.getD .skip
noncomputable def F_inode_slot (_E : FnA) (_n _n0 : Nat) (a0 : AV) (bx : Bx) : Option (Ex × S) :=
  (pv bx (binA Try.prog .geq 3 a0 (.v (Go.Value.int Go.IntKind.i64 0)))).bind fun r1 =>
  (gsel true r1.2 (some (a0, r1.2)) r1.1).bind fun r2 =>
  (gsel true r2.2 (pv r2.2 (binA Try.prog .lss 3 r2.1 (.v (Go.Value.int Go.IntKind.i64 3)))) r1.1).bind fun r3 =>
  (pv r3.2 (pickA r1.1 r3.1 (.v (Go.Value.bool false)))).bind fun r4 =>
  some (.ret, ⟨[(2, r4.1), (2, (.v (Go.Value.bool false))), (0, a0)], r4.2⟩)
theorem c_inode_slot_eq : Try.f25.body = some c_inode_slot := by kernel_rfl
theorem d_inode_slot : drawsOk Try.prog md0 c_inode_slot = true := by kernel_rfl
theorem F_inode_slot_eq (E : FnA) (n n0 : Nat) (a0 : AV) (bx : Bx) : evK Try.prog md0 E 9 kp_inode_slot n n0 c_inode_slot ⟨[(0, a0)], bx⟩ (fun s => some (.normal, s)) (fun i s => some (.exit i, s)) = F_inode_slot E n n0 a0 bx := by kernel_rfl

theorem E_inode_slot (n : Nat) (a0 : AV) (bx : Bx) : evFn cx0 ext0 (n + 1) 25 [a0] bx = fin Try.prog [.tmp 2] (F_inode_slot (evFn cx0 ext0 n) n bx.length a0 bx) := by
  rw [evFn_eq2 (cx := cx0) (c := c_inode_slot) rfl Try.func25 c_inode_slot_eq (of_decide_eq_true (by kernel_rfl)) d_inode_slot (of_decide_eq_true (by kernel_rfl))]
  exact congrArg (fin Try.prog [.tmp 2]) (F_inode_slot_eq (evFn cx0 ext0 n) n bx.length a0 bx)

/-- scupper/scupperref10.field -/
def kp_r10_field : Option (List Nat) := some [0, 2, 3, 4, 5, 6, 14]
noncomputable def c_r10_field : Code := Try.f26.body.getD .skip
noncomputable def F_r10_field (_E : FnA) (_n _n0 : Nat) (a0 : AV) (bx : Bx) : Option (Ex × S) :=
  (buildSliceA Try.prog bx 71 10 [(0, (.v (Go.Value.int Go.IntKind.i64 0))), (1, (.v (Go.Value.int Go.IntKind.i64 1))), (2, (.v (Go.Value.int Go.IntKind.i64 2))), (3, (.v (Go.Value.int Go.IntKind.i64 6))), (4, (.v (Go.Value.int Go.IntKind.i64 8))), (5, (.v (Go.Value.int Go.IntKind.i64 10))), (6, (.v (Go.Value.int Go.IntKind.i64 12))), (7, (.v (Go.Value.int Go.IntKind.i64 14))), (8, (.v (Go.Value.int Go.IntKind.i64 16))), (9, (.v (Go.Value.int Go.IntKind.i64 2)))]).bind fun r1 =>
  (buildSliceA Try.prog r1.2 71 10 [(0, (.v (Go.Value.int Go.IntKind.i64 18))), (1, (.v (Go.Value.int Go.IntKind.i64 1))), (2, (.v (Go.Value.int Go.IntKind.i64 4))), (3, (.v (Go.Value.int Go.IntKind.i64 2))), (4, (.v (Go.Value.int Go.IntKind.i64 2))), (5, (.v (Go.Value.int Go.IntKind.i64 2))), (6, (.v (Go.Value.int Go.IntKind.i64 2))), (7, (.v (Go.Value.int Go.IntKind.i64 2))), (8, (.v (Go.Value.int Go.IntKind.i64 2))), (9, (.v (Go.Value.int Go.IntKind.i64 16)))]).bind fun r2 =>
  (pv r2.2 (binA Try.prog .lss 3 a0 (.v (Go.Value.int Go.IntKind.i64 0)))).bind fun r3 =>
  (gsel false r3.2 (some (a0, r3.2)) r3.1).bind fun r4 =>
  (gsel false r4.2 (pv r4.2 (binA Try.prog .gtr 3 r4.1 (.v (Go.Value.int Go.IntKind.i64 9)))) r3.1).bind fun r5 =>
  (pv r5.2 (pickA r3.1 (.v (Go.Value.bool true)) r5.1)).bind fun r6 =>
  condA r6.1 (some (.ret, ⟨[(4, (.v (Go.Value.bool false))), (3, (.v (Go.Value.int Go.IntKind.i64 0))), (2, (.v (Go.Value.int Go.IntKind.i64 0))), (14, r6.1), (6, r2.1), (5, r1.1), (4, (.v (Go.Value.bool false))), (3, (.v (Go.Value.int Go.IntKind.i64 0))), (2, (.v (Go.Value.int Go.IntKind.i64 0))), (0, a0)], r6.2⟩)) ((pv r6.2 (indexAddrA Try.prog 71 r1.1 a0)).bind fun r7 =>
  (pv r7.2 (loadA Try.prog 3 r7.2 r7.1)).bind fun r8 =>
  (pv r8.2 (indexAddrA Try.prog 71 r2.1 a0)).bind fun r9 =>
  (pv r9.2 (loadA Try.prog 3 r9.2 r9.1)).bind fun r10 =>
  some (.ret, ⟨[(4, (.v (Go.Value.bool true))), (3, r10.1), (2, r8.1), (14, r6.1), (6, r2.1), (5, r1.1), (4, (.v (Go.Value.bool false))), (3, (.v (Go.Value.int Go.IntKind.i64 0))), (2, (.v (Go.Value.int Go.IntKind.i64 0))), (0, a0)], r10.2⟩))
theorem c_r10_field_eq : Try.f26.body = some c_r10_field := by kernel_rfl
theorem d_r10_field : drawsOk Try.prog md0 c_r10_field = true := by kernel_rfl
theorem F_r10_field_eq (E : FnA) (n n0 : Nat) (a0 : AV) (bx : Bx) : evK Try.prog md0 E 23 kp_r10_field n n0 c_r10_field ⟨[(0, a0)], bx⟩ (fun s => some (.normal, s)) (fun i s => some (.exit i, s)) = F_r10_field E n n0 a0 bx := by kernel_rfl

theorem E_r10_field (n : Nat) (a0 : AV) (bx : Bx) : evFn cx0 ext0 (n + 1) 26 [a0] bx = fin Try.prog [.tmp 2, .tmp 3, .tmp 4] (F_r10_field (evFn cx0 ext0 n) n bx.length a0 bx) := by
  rw [evFn_eq2 (cx := cx0) (c := c_r10_field) rfl Try.func26 c_r10_field_eq (of_decide_eq_true (by kernel_rfl)) d_r10_field (of_decide_eq_true (by kernel_rfl))]
  exact congrArg (fin Try.prog [.tmp 2, .tmp 3, .tmp 4]) (F_r10_field_eq (evFn cx0 ext0 n) n bx.length a0 bx)

/-- scupper/num.Put32 -/
def kp_num_Put32 : Option (List Nat) := some [0, 2, 3, 4, 5, 6]
noncomputable def c_num_Put32 : Code := Try.f27.body.getD .skip
noncomputable def L_num_Put32_0 (_E : FnA) (_n _n0 : Nat) (s : S) : Option (Ex × S) :=
  (pv s.bx (binA Try.prog .lss 3 (get s.env 5) (.v (Go.Value.int Go.IntKind.i64 4)))).bind fun r10 =>
  condA r10.1 ((pv r10.2 (binA Try.prog .mul 3 (.v (Go.Value.int Go.IntKind.i64 8)) (get (prune kp_num_Put32 s.env) 5))).bind fun r11 =>
  (pv r11.2 (binA Try.prog .shr 22 (get (prune kp_num_Put32 (prune kp_num_Put32 s.env)) 0) r11.1)).bind fun r12 =>
  (convA Try.prog r12.2 22 5 r12.1).bind fun r13 =>
  (pv r13.2 (indexAddrA Try.prog 58 (get (prune kp_num_Put32 (prune kp_num_Put32 s.env)) 3) (get (prune kp_num_Put32 s.env) 5))).bind fun r14 =>
  (stA Try.prog 5 r14.2 r14.1 r13.1).bind fun r15 =>
  (pv r15.2 (binA Try.prog .add 3 (get (prune kp_num_Put32 (prune kp_num_Put32 (prune kp_num_Put32 s.env))) 5) (.v (Go.Value.int Go.IntKind.i64 1)))).bind fun r16 =>
  some (.normal, ⟨((5, r16.1) :: (4, (get (prune kp_num_Put32 s.env) 5)) :: (6, r10.1) :: (prune kp_num_Put32 (prune kp_num_Put32 (prune kp_num_Put32 (prune kp_num_Put32 s.env))))), r16.2⟩)) (some (.exit 0, ⟨((6, r10.1) :: (prune kp_num_Put32 s.env)), r10.2⟩))
noncomputable def B_num_Put32_0 (_E : FnA) (_n _n0 : Nat) (x5 x3 x2 x0 : AV) (y : Bx) : Option (Ex × S) :=
  (pv y (binA Try.prog .lss 3 x5 (.v (Go.Value.int Go.IntKind.i64 4)))).bind fun r3 =>
  condA r3.1 ((pv r3.2 (binA Try.prog .mul 3 (.v (Go.Value.int Go.IntKind.i64 8)) x5)).bind fun r4 =>
  (pv r4.2 (binA Try.prog .shr 22 x0 r4.1)).bind fun r5 =>
  (convA Try.prog r5.2 22 5 r5.1).bind fun r6 =>
  (pv r6.2 (indexAddrA Try.prog 58 x3 x5)).bind fun r7 =>
  (stA Try.prog 5 r7.2 r7.1 r6.1).bind fun r8 =>
  (pv r8.2 (binA Try.prog .add 3 x5 (.v (Go.Value.int Go.IntKind.i64 1)))).bind fun r9 =>
  some (.normal, ⟨[(5, r9.1), (4, x5), (6, r3.1), (5, x5), (3, x3), (2, x2), (0, x0)], r9.2⟩)) (some (.exit 0, ⟨[(6, r3.1), (5, x5), (3, x3), (2, x2), (0, x0)], r3.2⟩))
theorem L_num_Put32_0_lit {E : FnA} {n n0 : Nat} {x5 x3 x2 x0 : AV} {y : Bx} {Q : Ex → S → Prop} (h : Ends (B_num_Put32_0 E n n0 x5 x3 x2 x0 y) Q) : Ends (L_num_Put32_0 E n n0 ⟨[(5, x5), (3, x3), (2, x2), (0, x0)], y⟩) Q := by
  rw [show L_num_Put32_0 E n n0 ⟨[(5, x5), (3, x3), (2, x2), (0, x0)], y⟩ = B_num_Put32_0 E n n0 x5 x3 x2 x0 y by kernel_rfl]
  exact h
noncomputable def K_num_Put32_0 (_E : FnA) (_n _n0 : Nat) (t : S) : Option (Ex × S) :=
  (pv t.bx (loadA Try.prog 58 t.bx (get t.env 3))).bind fun r19 =>
  (stA Try.prog 58 r19.2 (get t.env 2) r19.1).bind fun r20 =>
  some (.ret, ⟨(prune kp_num_Put32 t.env), r20.2⟩)
noncomputable def X_num_Put32_0 (_E : FnA) (_n _n0 : Nat) (i : Nat) (t : S) : Option (Ex × S) :=
  if i = 0 then (pv t.bx (loadA Try.prog 58 t.bx (get t.env 3))).bind fun r17 =>
  (stA Try.prog 58 r17.2 (get t.env 2) r17.1).bind fun r18 =>
  some (.ret, ⟨(prune kp_num_Put32 t.env), r18.2⟩) else some (.exit i, ⟨t.env, t.bx⟩)
noncomputable def X_num_Put32_0_0 (_E : FnA) (_n _n0 : Nat) (x6 x5 x3 x2 x0 : AV) (y : Bx) : Option (Ex × S) :=
  (pv y (loadA Try.prog 58 y x3)).bind fun r21 =>
  (stA Try.prog 58 r21.2 x2 r21.1).bind fun r22 =>
  some (.ret, ⟨[(6, x6), (5, x5), (3, x3), (2, x2), (0, x0)], r22.2⟩)
theorem X_num_Put32_0_0_lit {E : FnA} {n n0 : Nat} {x6 x5 x3 x2 x0 : AV} {y : Bx} {Q : Ex → S → Prop} (h : Ends (X_num_Put32_0_0 E n n0 x6 x5 x3 x2 x0 y) Q) : Ends (X_num_Put32_0 E n n0 0 ⟨[(6, x6), (5, x5), (3, x3), (2, x2), (0, x0)], y⟩) Q := by
  rw [show X_num_Put32_0 E n n0 0 ⟨[(6, x6), (5, x5), (3, x3), (2, x2), (0, x0)], y⟩ = X_num_Put32_0_0 E n n0 x6 x5 x3 x2 x0 y by kernel_rfl]
  exact h
noncomputable def F_num_Put32 (E : FnA) (n n0 : Nat) (a0 : AV) (bx : Bx) : Option (Ex × S) :=
  (allocA Try.prog bx 58).bind fun r1 =>
  (allocA Try.prog r1.2 58).bind fun r2 =>
  exitA (iter ⟨[(5, (.v (Go.Value.int Go.IntKind.i64 0))), (3, r2.1), (2, r1.1), (0, a0)], r2.2⟩ (L_num_Put32_0 E n n0) n ⟨[(5, (.v (Go.Value.int Go.IntKind.i64 0))), (3, r2.1), (2, r1.1), (0, a0)], r2.2⟩) (K_num_Put32_0 E n n0) (X_num_Put32_0 E n n0)
theorem c_num_Put32_eq : Try.f27.body = some c_num_Put32 := by kernel_rfl
theorem d_num_Put32 : drawsOk Try.prog md0 c_num_Put32 = true := by kernel_rfl
theorem F_num_Put32_eq (E : FnA) (n n0 : Nat) (a0 : AV) (bx : Bx) : evK Try.prog md0 E 17 kp_num_Put32 n n0 c_num_Put32 ⟨[(0, a0)], bx⟩ (fun s => some (.normal, s)) (fun i s => some (.exit i, s)) = F_num_Put32 E n n0 a0 bx := by kernel_rfl

theorem E_num_Put32 (n : Nat) (a0 : AV) (bx : Bx) : evFn cx0 ext0 (n + 1) 27 [a0] bx = fin Try.prog [.cell 2 58] (F_num_Put32 (evFn cx0 ext0 n) n bx.length a0 bx) := by
  rw [evFn_eq2 (cx := cx0) (c := c_num_Put32) rfl Try.func27 c_num_Put32_eq (of_decide_eq_true (by kernel_rfl)) d_num_Put32 (of_decide_eq_true (by kernel_rfl))]
  exact congrArg (fin Try.prog [.cell 2 58]) (F_num_Put32_eq (evFn cx0 ext0 n) n bx.length a0 bx)

/-- scupper/num.Put16 -/
def kp_num_Put16 : Option (List Nat) := some [0, 2]
noncomputable def c_num_Put16 : Code := Try.f28.body.getD .skip
noncomputable def F_num_Put16 (_E : FnA) (_n _n0 : Nat) (a0 : AV) (bx : Bx) : Option (Ex × S) :=
  (allocA Try.prog bx 61).bind fun r1 =>
  (convA Try.prog r1.2 23 5 a0).bind fun r2 =>
  (pv r2.2 (binA Try.prog .shr 23 a0 (.v (Go.Value.int Go.IntKind.u64 8)))).bind fun r3 =>
  (convA Try.prog r3.2 23 5 r3.1).bind fun r4 =>
  (pv r4.2 (buildA Try.prog 61 [(0, r2.1), (1, r4.1)])).bind fun r5 =>
  (stA Try.prog 61 r5.2 r1.1 r5.1).bind fun r6 =>
  some (.ret, ⟨[(2, r1.1), (0, a0)], r6.2⟩)
theorem c_num_Put16_eq : Try.f28.body = some c_num_Put16 := by kernel_rfl
theorem d_num_Put16 : drawsOk Try.prog md0 c_num_Put16 = true := by kernel_rfl
theorem F_num_Put16_eq (E : FnA) (n n0 : Nat) (a0 : AV) (bx : Bx) : evK Try.prog md0 E 9 kp_num_Put16 n n0 c_num_Put16 ⟨[(0, a0)], bx⟩ (fun s => some (.normal, s)) (fun i s => some (.exit i, s)) = F_num_Put16 E n n0 a0 bx := by kernel_rfl

theorem E_num_Put16 (n : Nat) (a0 : AV) (bx : Bx) : evFn cx0 ext0 (n + 1) 28 [a0] bx = fin Try.prog [.cell 2 61] (F_num_Put16 (evFn cx0 ext0 n) n bx.length a0 bx) := by
  rw [evFn_eq2 (cx := cx0) (c := c_num_Put16) rfl Try.func28 c_num_Put16_eq (of_decide_eq_true (by kernel_rfl)) d_num_Put16 (of_decide_eq_true (by kernel_rfl))]
  exact congrArg (fin Try.prog [.cell 2 61]) (F_num_Put16_eq (evFn cx0 ext0 n) n bx.length a0 bx)

/-- scupper/scupperref01.Put32 -/
def kp_r01_Put32 : Option (List Nat) := some [0, 2]
noncomputable def c_r01_Put32 : Code := Try.f29.body.getD .skip
noncomputable def F_r01_Put32 (_E : FnA) (_n _n0 : Nat) (a0 : AV) (bx : Bx) : Option (Ex × S) :=
  (some (AV.bsl (List.length bx) 0 0 0, bx ++ [[]])).bind fun r1 =>
  (pv r1.2 (binA Try.prog .rem 22 a0 (.v (Go.Value.int Go.IntKind.u32 256)))).bind fun r2 =>
  (convA Try.prog r2.2 22 5 r2.1).bind fun r3 =>
  (pv r3.2 (binA Try.prog .quo 22 a0 (.v (Go.Value.int Go.IntKind.u32 256)))).bind fun r4 =>
  (pv r4.2 (binA Try.prog .rem 22 r4.1 (.v (Go.Value.int Go.IntKind.u32 256)))).bind fun r5 =>
  (convA Try.prog r5.2 22 5 r5.1).bind fun r6 =>
  (pv r6.2 (binA Try.prog .quo 22 a0 (.v (Go.Value.int Go.IntKind.u32 65536)))).bind fun r7 =>
  (pv r7.2 (binA Try.prog .rem 22 r7.1 (.v (Go.Value.int Go.IntKind.u32 256)))).bind fun r8 =>
  (convA Try.prog r8.2 22 5 r8.1).bind fun r9 =>
  (pv r9.2 (binA Try.prog .quo 22 a0 (.v (Go.Value.int Go.IntKind.u32 16777216)))).bind fun r10 =>
  (convA Try.prog r10.2 22 5 r10.1).bind fun r11 =>
  (buildSliceA Try.prog r11.2 35 4 [(0, r3.1), (1, r6.1), (2, r9.1), (3, r11.1)]).bind fun r12 =>
  some (.ret, ⟨[(2, r12.1), (2, r1.1), (0, a0)], r12.2⟩)
theorem c_r01_Put32_eq : Try.f29.body = some c_r01_Put32 := by kernel_rfl
theorem d_r01_Put32 : drawsOk Try.prog md0 c_r01_Put32 = true := by kernel_rfl
theorem F_r01_Put32_eq (E : FnA) (n n0 : Nat) (a0 : AV) (bx : Bx) : evK Try.prog md0 E 18 kp_r01_Put32 n n0 c_r01_Put32 ⟨[(0, a0)], bx⟩ (fun s => some (.normal, s)) (fun i s => some (.exit i, s)) = F_r01_Put32 E n n0 a0 bx := by kernel_rfl

theorem E_r01_Put32 (n : Nat) (a0 : AV) (bx : Bx) : evFn cx0 ext0 (n + 1) 29 [a0] bx = fin Try.prog [.tmp 2] (F_r01_Put32 (evFn cx0 ext0 n) n bx.length a0 bx) := by
  rw [evFn_eq2 (cx := cx0) (c := c_r01_Put32) rfl Try.func29 c_r01_Put32_eq (of_decide_eq_true (by kernel_rfl)) d_r01_Put32 (of_decide_eq_true (by kernel_rfl))]
  exact congrArg (fin Try.prog [.tmp 2]) (F_r01_Put32_eq (evFn cx0 ext0 n) n bx.length a0 bx)

/-- scupper/scupperref01.Put16 -/
def kp_r01_Put16 : Option (List Nat) := some [0, 2]
noncomputable def c_r01_Put16 : Code := Try.f30.body.getD .skip
noncomputable def F_r01_Put16 (_E : FnA) (_n _n0 : Nat) (a0 : AV) (bx : Bx) : Option (Ex × S) :=
  (some (AV.bsl (List.length bx) 0 0 0, bx ++ [[]])).bind fun r1 =>
  (pv r1.2 (binA Try.prog .rem 23 a0 (.v (Go.Value.int Go.IntKind.u16 256)))).bind fun r2 =>
  (convA Try.prog r2.2 23 5 r2.1).bind fun r3 =>
  (pv r3.2 (binA Try.prog .quo 23 a0 (.v (Go.Value.int Go.IntKind.u16 256)))).bind fun r4 =>
  (convA Try.prog r4.2 23 5 r4.1).bind fun r5 =>
  (buildSliceA Try.prog r5.2 35 2 [(0, r3.1), (1, r5.1)]).bind fun r6 =>
  some (.ret, ⟨[(2, r6.1), (2, r1.1), (0, a0)], r6.2⟩)
theorem c_r01_Put16_eq : Try.f30.body = some c_r01_Put16 := by kernel_rfl
theorem d_r01_Put16 : drawsOk Try.prog md0 c_r01_Put16 = true := by kernel_rfl
theorem F_r01_Put16_eq (E : FnA) (n n0 : Nat) (a0 : AV) (bx : Bx) : evK Try.prog md0 E 10 kp_r01_Put16 n n0 c_r01_Put16 ⟨[(0, a0)], bx⟩ (fun s => some (.normal, s)) (fun i s => some (.exit i, s)) = F_r01_Put16 E n n0 a0 bx := by kernel_rfl

theorem E_r01_Put16 (n : Nat) (a0 : AV) (bx : Bx) : evFn cx0 ext0 (n + 1) 30 [a0] bx = fin Try.prog [.tmp 2] (F_r01_Put16 (evFn cx0 ext0 n) n bx.length a0 bx) := by
  rw [evFn_eq2 (cx := cx0) (c := c_r01_Put16) rfl Try.func30 c_r01_Put16_eq (of_decide_eq_true (by kernel_rfl)) d_r01_Put16 (of_decide_eq_true (by kernel_rfl))]
  exact congrArg (fin Try.prog [.tmp 2]) (F_r01_Put16_eq (evFn cx0 ext0 n) n bx.length a0 bx)

/-- scupper/num.Get32 -/
def kp_num_Get32 : Option (List Nat) := some [0, 1, 4, 5]
noncomputable def c_num_Get32 : Code := Try.f31.body.getD .skip
noncomputable def F_num_Get32 (E : FnA) (_n _n0 : Nat) (a0 a1 : AV) (bx : Bx) : Option (Ex × S) :=
  (callA E md0 bx 35 [a0, a1, (.v (Go.Value.int Go.IntKind.i64 4))]).bind fun r1 =>
  (pv r1.2 (tupA r1.1 0)).bind fun r2 =>
  (pv r2.2 (tupA r1.1 1)).bind fun r3 =>
  some (.ret, ⟨[(5, r3.1), (4, r2.1), (5, (.v (Go.Value.int Go.IntKind.i64 0))), (4, (.v (Go.Value.int Go.IntKind.u32 0))), (0, a0), (1, a1)], r3.2⟩)
theorem c_num_Get32_eq : Try.f31.body = some c_num_Get32 := by kernel_rfl
theorem d_num_Get32 : drawsOk Try.prog md0 c_num_Get32 = true := by kernel_rfl
theorem F_num_Get32_eq (E : FnA) (n n0 : Nat) (a0 a1 : AV) (bx : Bx) : evK Try.prog md0 E 11 kp_num_Get32 n n0 c_num_Get32 ⟨[(0, a0), (1, a1)], bx⟩ (fun s => some (.normal, s)) (fun i s => some (.exit i, s)) = F_num_Get32 E n n0 a0 a1 bx := by kernel_rfl

theorem E_num_Get32 (n : Nat) (a0 a1 : AV) (bx : Bx) : evFn cx0 ext0 (n + 1) 31 [a0, a1] bx = fin Try.prog [.tmp 4, .tmp 5] (F_num_Get32 (evFn cx0 ext0 n) n bx.length a0 a1 bx) := by
  rw [evFn_eq2 (cx := cx0) (c := c_num_Get32) rfl Try.func31 c_num_Get32_eq (of_decide_eq_true (by kernel_rfl)) d_num_Get32 (of_decide_eq_true (by kernel_rfl))]
  exact congrArg (fin Try.prog [.tmp 4, .tmp 5]) (F_num_Get32_eq (evFn cx0 ext0 n) n bx.length a0 a1 bx)

/-- scupper/num.Get16 -/
def kp_num_Get16 : Option (List Nat) := some [0, 1, 4, 5, 6, 7]
noncomputable def c_num_Get16 : Code := Try.f32.body.getD .skip
noncomputable def F_num_Get16 (E : FnA) (_n _n0 : Nat) (a0 a1 : AV) (bx : Bx) : Option (Ex × S) :=
  (callA E md0 bx 35 [a0, a1, (.v (Go.Value.int Go.IntKind.i64 2))]).bind fun r1 =>
  (pv r1.2 (tupA r1.1 0)).bind fun r2 =>
  (pv r2.2 (tupA r1.1 1)).bind fun r3 =>
  (convA Try.prog r3.2 22 23 r2.1).bind fun r4 =>
  some (.ret, ⟨[(5, r3.1), (4, r4.1), (7, r3.1), (6, r2.1), (5, (.v (Go.Value.int Go.IntKind.i64 0))), (4, (.v (Go.Value.int Go.IntKind.u16 0))), (0, a0), (1, a1)], r4.2⟩)
theorem c_num_Get16_eq : Try.f32.body = some c_num_Get16 := by kernel_rfl
theorem d_num_Get16 : drawsOk Try.prog md0 c_num_Get16 = true := by kernel_rfl
theorem F_num_Get16_eq (E : FnA) (n n0 : Nat) (a0 a1 : AV) (bx : Bx) : evK Try.prog md0 E 17 kp_num_Get16 n n0 c_num_Get16 ⟨[(0, a0), (1, a1)], bx⟩ (fun s => some (.normal, s)) (fun i s => some (.exit i, s)) = F_num_Get16 E n n0 a0 a1 bx := by kernel_rfl

theorem E_num_Get16 (n : Nat) (a0 a1 : AV) (bx : Bx) : evFn cx0 ext0 (n + 1) 32 [a0, a1] bx = fin Try.prog [.tmp 4, .tmp 5] (F_num_Get16 (evFn cx0 ext0 n) n bx.length a0 a1 bx) := by
  rw [evFn_eq2 (cx := cx0) (c := c_num_Get16) rfl Try.func32 c_num_Get16_eq (of_decide_eq_true (by kernel_rfl)) d_num_Get16 (of_decide_eq_true (by kernel_rfl))]
  exact congrArg (fin Try.prog [.tmp 4, .tmp 5]) (F_num_Get16_eq (evFn cx0 ext0 n) n bx.length a0 a1 bx)

/-- scupper/scupperref01.Get32 -/
def kp_r01_Get32 : Option (List Nat) := some [0, 1, 4, 5, 6, 7]
noncomputable def c_r01_Get32 : Code := Try.f33.body.getD .skip
noncomputable def F_r01_Get32 (E : FnA) (_n _n0 : Nat) (a0 a1 : AV) (bx : Bx) : Option (Ex × S) :=
  (callA E md0 bx 36 [a0, a1, (.v (Go.Value.int Go.IntKind.i64 4))]).bind fun r1 =>
  (pv r1.2 (tupA r1.1 0)).bind fun r2 =>
  (pv r2.2 (tupA r1.1 1)).bind fun r3 =>
  (convA Try.prog r3.2 74 22 r2.1).bind fun r4 =>
  some (.ret, ⟨[(5, r3.1), (4, r4.1), (7, r3.1), (6, r2.1), (5, (.v (Go.Value.int Go.IntKind.i64 0))), (4, (.v (Go.Value.int Go.IntKind.u32 0))), (0, a0), (1, a1)], r4.2⟩)
theorem c_r01_Get32_eq : Try.f33.body = some c_r01_Get32 := by kernel_rfl
theorem d_r01_Get32 : drawsOk Try.prog md0 c_r01_Get32 = true := by kernel_rfl
theorem F_r01_Get32_eq (E : FnA) (n n0 : Nat) (a0 a1 : AV) (bx : Bx) : evK Try.prog md0 E 17 kp_r01_Get32 n n0 c_r01_Get32 ⟨[(0, a0), (1, a1)], bx⟩ (fun s => some (.normal, s)) (fun i s => some (.exit i, s)) = F_r01_Get32 E n n0 a0 a1 bx := by kernel_rfl

theorem E_r01_Get32 (n : Nat) (a0 a1 : AV) (bx : Bx) : evFn cx0 ext0 (n + 1) 33 [a0, a1] bx = fin Try.prog [.tmp 4, .tmp 5] (F_r01_Get32 (evFn cx0 ext0 n) n bx.length a0 a1 bx) := by
  rw [evFn_eq2 (cx := cx0) (c := c_r01_Get32) rfl Try.func33 c_r01_Get32_eq (of_decide_eq_true (by kernel_rfl)) d_r01_Get32 (of_decide_eq_true (by kernel_rfl))]
  exact congrArg (fin Try.prog [.tmp 4, .tmp 5]) (F_r01_Get32_eq (evFn cx0 ext0 n) n bx.length a0 a1 bx)

/-- scupper/scupperref01.Get16 -/
def kp_r01_Get16 : Option (List Nat) := some [0, 1, 4, 5, 6, 7]
noncomputable def c_r01_Get16 : Code := Try.f34.body.getD .skip
noncomputable def F_r01_Get16 (E : FnA) (_n _n0 : Nat) (a0 a1 : AV) (bx : Bx) : Option (Ex × S) :=
  (callA E md0 bx 36 [a0, a1, (.v (Go.Value.int Go.IntKind.i64 2))]).bind fun r1 =>
  (pv r1.2 (tupA r1.1 0)).bind fun r2 =>
  (pv r2.2 (tupA r1.1 1)).bind fun r3 =>
  (convA Try.prog r3.2 74 23 r2.1).bind fun r4 =>
  some (.ret, ⟨[(5, r3.1), (4, r4.1), (7, r3.1), (6, r2.1), (5, (.v (Go.Value.int Go.IntKind.i64 0))), (4, (.v (Go.Value.int Go.IntKind.u16 0))), (0, a0), (1, a1)], r4.2⟩)
theorem c_r01_Get16_eq : Try.f34.body = some c_r01_Get16 := by kernel_rfl
theorem d_r01_Get16 : drawsOk Try.prog md0 c_r01_Get16 = true := by kernel_rfl
theorem F_r01_Get16_eq (E : FnA) (n n0 : Nat) (a0 a1 : AV) (bx : Bx) : evK Try.prog md0 E 17 kp_r01_Get16 n n0 c_r01_Get16 ⟨[(0, a0), (1, a1)], bx⟩ (fun s => some (.normal, s)) (fun i s => some (.exit i, s)) = F_r01_Get16 E n n0 a0 a1 bx := by kernel_rfl

theorem E_r01_Get16 (n : Nat) (a0 a1 : AV) (bx : Bx) : evFn cx0 ext0 (n + 1) 34 [a0, a1] bx = fin Try.prog [.tmp 4, .tmp 5] (F_r01_Get16 (evFn cx0 ext0 n) n bx.length a0 a1 bx) := by
  rw [evFn_eq2 (cx := cx0) (c := c_r01_Get16) rfl Try.func34 c_r01_Get16_eq (of_decide_eq_true (by kernel_rfl)) d_r01_Get16 (of_decide_eq_true (by kernel_rfl))]
  exact congrArg (fin Try.prog [.tmp 4, .tmp 5]) (F_r01_Get16_eq (evFn cx0 ext0 n) n bx.length a0 a1 bx)

/-- scupper/num.get -/
def kp_num_get : Option (List Nat) := some [0, 1, 2, 6, 7, 8, 9, 25, 26, 27, 28]
noncomputable def c_num_get : Code := Try.f35.body.getD .skip
noncomputable def L_num_get_0 (_E : FnA) (_n _n0 : Nat) (s : S) : Option (Ex × S) :=
  (pv s.bx (binA Try.prog .lss 3 (get s.env 27) (get s.env 26))).bind fun r23 =>
  condA r23.1 ((pv r23.2 (binA Try.prog .add 3 (get (prune kp_num_get (prune kp_num_get s.env)) 1) (get (prune kp_num_get s.env) 27))).bind fun r24 =>
  (pv r24.2 (indexAddrA Try.prog 35 (get (prune kp_num_get (prune kp_num_get s.env)) 0) r24.1)).bind fun r25 =>
  (pv r25.2 (loadA Try.prog 5 r25.2 r25.1)).bind fun r26 =>
  (convA Try.prog r26.2 5 22 r26.1).bind fun r27 =>
  (pv r27.2 (binA Try.prog .mul 3 (.v (Go.Value.int Go.IntKind.i64 8)) (get (prune kp_num_get s.env) 27))).bind fun r28 =>
  (pv r28.2 (binA Try.prog .shl 22 r27.1 r28.1)).bind fun r29 =>
  (pv r29.2 (binA Try.prog .or 22 (get (prune kp_num_get (prune kp_num_get s.env)) 8) r29.1)).bind fun r30 =>
  (pv r30.2 (binA Try.prog .add 3 (get (prune kp_num_get (prune kp_num_get (prune kp_num_get s.env))) 27) (.v (Go.Value.int Go.IntKind.i64 1)))).bind fun r31 =>
  some (.normal, ⟨((27, r31.1) :: (8, r30.1) :: (9, (get (prune kp_num_get s.env) 27)) :: (28, r23.1) :: (prune kp_num_get (prune kp_num_get (prune kp_num_get (prune kp_num_get s.env))))), r31.2⟩)) (some (.exit 0, ⟨((28, r23.1) :: (prune kp_num_get s.env)), r23.2⟩))
noncomputable def B_num_get_0 (_E : FnA) (_n _n0 : Nat) (x27 x26 x8 x25 x7 x6 x0 x1 x2 : AV) (y : Bx) : Option (Ex × S) :=
  (pv y (binA Try.prog .lss 3 x27 x26)).bind fun r14 =>
  condA r14.1 ((pv r14.2 (binA Try.prog .add 3 x1 x27)).bind fun r15 =>
  (pv r15.2 (indexAddrA Try.prog 35 x0 r15.1)).bind fun r16 =>
  (pv r16.2 (loadA Try.prog 5 r16.2 r16.1)).bind fun r17 =>
  (convA Try.prog r17.2 5 22 r17.1).bind fun r18 =>
  (pv r18.2 (binA Try.prog .mul 3 (.v (Go.Value.int Go.IntKind.i64 8)) x27)).bind fun r19 =>
  (pv r19.2 (binA Try.prog .shl 22 r18.1 r19.1)).bind fun r20 =>
  (pv r20.2 (binA Try.prog .or 22 x8 r20.1)).bind fun r21 =>
  (pv r21.2 (binA Try.prog .add 3 x27 (.v (Go.Value.int Go.IntKind.i64 1)))).bind fun r22 =>
  some (.normal, ⟨[(27, r22.1), (8, r21.1), (9, x27), (28, r14.1), (27, x27), (26, x26), (8, x8), (25, x25), (7, x7), (6, x6), (0, x0), (1, x1), (2, x2)], r22.2⟩)) (some (.exit 0, ⟨[(28, r14.1), (27, x27), (26, x26), (8, x8), (25, x25), (7, x7), (6, x6), (0, x0), (1, x1), (2, x2)], r14.2⟩))
theorem L_num_get_0_lit {E : FnA} {n n0 : Nat} {x27 x26 x8 x25 x7 x6 x0 x1 x2 : AV} {y : Bx} {Q : Ex → S → Prop} (h : Ends (B_num_get_0 E n n0 x27 x26 x8 x25 x7 x6 x0 x1 x2 y) Q) : Ends (L_num_get_0 E n n0 ⟨[(27, x27), (26, x26), (8, x8), (25, x25), (7, x7), (6, x6), (0, x0), (1, x1), (2, x2)], y⟩) Q := by
  rw [show L_num_get_0 E n n0 ⟨[(27, x27), (26, x26), (8, x8), (25, x25), (7, x7), (6, x6), (0, x0), (1, x1), (2, x2)], y⟩ = B_num_get_0 E n n0 x27 x26 x8 x25 x7 x6 x0 x1 x2 y by kernel_rfl]
  exact h
noncomputable def K_num_get_0 (_E : FnA) (_n _n0 : Nat) (t : S) : Option (Ex × S) :=
  some (.ret, ⟨((7, (.v (Go.Value.int Go.IntKind.i64 0))) :: (6, (get t.env 8)) :: (prune kp_num_get t.env)), t.bx⟩)
noncomputable def X_num_get_0 (_E : FnA) (_n _n0 : Nat) (i : Nat) (t : S) : Option (Ex × S) :=
  if i = 0 then some (.ret, ⟨((7, (.v (Go.Value.int Go.IntKind.i64 0))) :: (6, (get t.env 8)) :: (prune kp_num_get t.env)), t.bx⟩) else some (.exit i, ⟨t.env, t.bx⟩)
noncomputable def X_num_get_0_0 (_E : FnA) (_n _n0 : Nat) (x28 x27 x26 x8 x25 x7 x6 x0 x1 x2 : AV) (y : Bx) : Option (Ex × S) :=
  some (.ret, ⟨[(7, (.v (Go.Value.int Go.IntKind.i64 0))), (6, x8), (28, x28), (27, x27), (26, x26), (8, x8), (25, x25), (7, x7), (6, x6), (0, x0), (1, x1), (2, x2)], y⟩)
theorem X_num_get_0_0_lit {E : FnA} {n n0 : Nat} {x28 x27 x26 x8 x25 x7 x6 x0 x1 x2 : AV} {y : Bx} {Q : Ex → S → Prop} (h : Ends (X_num_get_0_0 E n n0 x28 x27 x26 x8 x25 x7 x6 x0 x1 x2 y) Q) : Ends (X_num_get_0 E n n0 0 ⟨[(28, x28), (27, x27), (26, x26), (8, x8), (25, x25), (7, x7), (6, x6), (0, x0), (1, x1), (2, x2)], y⟩) Q := by
  rw [show X_num_get_0 E n n0 0 ⟨[(28, x28), (27, x27), (26, x26), (8, x8), (25, x25), (7, x7), (6, x6), (0, x0), (1, x1), (2, x2)], y⟩ = X_num_get_0_0 E n n0 x28 x27 x26 x8 x25 x7 x6 x0 x1 x2 y by kernel_rfl]
  exact h
noncomputable def F_num_get (E : FnA) (n n0 : Nat) (a0 a1 a2 : AV) (bx : Bx) : Option (Ex × S) :=
  (pv bx (binA Try.prog .lss 3 a1 (.v (Go.Value.int Go.IntKind.i64 0)))).bind fun r1 =>
  (gsel false r1.2 (some (a1, r1.2)) r1.1).bind fun r2 =>
  (gsel false r2.2 (some (a0, r2.2)) r1.1).bind fun r3 =>
  (gsel false r3.2 (pv r3.2 (lenA Try.prog 35 r3.1)) r1.1).bind fun r4 =>
  (gsel false r4.2 (pv r4.2 (binA Try.prog .gtr 3 r2.1 r4.1)) r1.1).bind fun r5 =>
  (pv r5.2 (pickA r1.1 (.v (Go.Value.bool true)) r5.1)).bind fun r6 =>
  (gsel false r6.2 (some (a0, r6.2)) r6.1).bind fun r7 =>
  (gsel false r7.2 (pv r7.2 (lenA Try.prog 35 r7.1)) r6.1).bind fun r8 =>
  (gsel false r8.2 (some (a1, r8.2)) r6.1).bind fun r9 =>
  (gsel false r9.2 (pv r9.2 (binA Try.prog .sub 3 r8.1 r9.1)) r6.1).bind fun r10 =>
  (gsel false r10.2 (some (a2, r10.2)) r6.1).bind fun r11 =>
  (gsel false r11.2 (pv r11.2 (binA Try.prog .lss 3 r10.1 r11.1)) r6.1).bind fun r12 =>
  (pv r12.2 (pickA r6.1 (.v (Go.Value.bool true)) r12.1)).bind fun r13 =>
  condA r13.1 (some (.ret, ⟨[(7, (.v (Go.Value.int Go.IntKind.i64 7))), (6, (.v (Go.Value.int Go.IntKind.u32 0))), (25, r13.1), (7, (.v (Go.Value.int Go.IntKind.i64 0))), (6, (.v (Go.Value.int Go.IntKind.u32 0))), (0, a0), (1, a1), (2, a2)], r13.2⟩)) (exitA (iter ⟨[(27, (.v (Go.Value.int Go.IntKind.i64 0))), (26, a2), (8, (.v (Go.Value.int Go.IntKind.u32 0))), (25, r13.1), (7, (.v (Go.Value.int Go.IntKind.i64 0))), (6, (.v (Go.Value.int Go.IntKind.u32 0))), (0, a0), (1, a1), (2, a2)], r13.2⟩ (L_num_get_0 E n n0) n ⟨[(27, (.v (Go.Value.int Go.IntKind.i64 0))), (26, a2), (8, (.v (Go.Value.int Go.IntKind.u32 0))), (25, r13.1), (7, (.v (Go.Value.int Go.IntKind.i64 0))), (6, (.v (Go.Value.int Go.IntKind.u32 0))), (0, a0), (1, a1), (2, a2)], r13.2⟩) (K_num_get_0 E n n0) (X_num_get_0 E n n0))
theorem c_num_get_eq : Try.f35.body = some c_num_get := by kernel_rfl
theorem d_num_get : drawsOk Try.prog md0 c_num_get = true := by kernel_rfl
theorem F_num_get_eq (E : FnA) (n n0 : Nat) (a0 a1 a2 : AV) (bx : Bx) : evK Try.prog md0 E 44 kp_num_get n n0 c_num_get ⟨[(0, a0), (1, a1), (2, a2)], bx⟩ (fun s => some (.normal, s)) (fun i s => some (.exit i, s)) = F_num_get E n n0 a0 a1 a2 bx := by kernel_rfl

theorem E_num_get (n : Nat) (a0 a1 a2 : AV) (bx : Bx) : evFn cx0 ext0 (n + 1) 35 [a0, a1, a2] bx = fin Try.prog [.tmp 6, .tmp 7] (F_num_get (evFn cx0 ext0 n) n bx.length a0 a1 a2 bx) := by
  rw [evFn_eq2 (cx := cx0) (c := c_num_get) rfl Try.func35 c_num_get_eq (of_decide_eq_true (by kernel_rfl)) d_num_get (of_decide_eq_true (by kernel_rfl))]
  exact congrArg (fin Try.prog [.tmp 6, .tmp 7]) (F_num_get_eq (evFn cx0 ext0 n) n bx.length a0 a1 a2 bx)

/-- scupper/scupperref01.number -/
def kp_r01_number : Option (List Nat) := some [0, 1, 2, 6, 7, 8, 9, 25, 29]
noncomputable def c_r01_number : Code := Try.f36.body.getD .skip
noncomputable def L_r01_number_0 (_E : FnA) (_n _n0 : Nat) (s : S) : Option (Ex × S) :=
  (pv s.bx (binA Try.prog .geq 3 (get s.env 9) (.v (Go.Value.int Go.IntKind.i64 0)))).bind fun r23 =>
  condA r23.1 ((pv r23.2 (binA Try.prog .mul 74 (.v (Go.Value.int Go.IntKind.u64 256)) (get (prune kp_r01_number s.env) 8))).bind fun r24 =>
  (pv r24.2 (binA Try.prog .add 3 (get (prune kp_r01_number s.env) 1) (get (prune kp_r01_number s.env) 9))).bind fun r25 =>
  (pv r25.2 (indexAddrA Try.prog 35 (get (prune kp_r01_number s.env) 0) r25.1)).bind fun r26 =>
  (pv r26.2 (loadA Try.prog 5 r26.2 r26.1)).bind fun r27 =>
  (convA Try.prog r27.2 5 74 r27.1).bind fun r28 =>
  (pv r28.2 (binA Try.prog .add 74 r24.1 r28.1)).bind fun r29 =>
  (pv r29.2 (binA Try.prog .sub 3 (get (prune kp_r01_number (prune kp_r01_number s.env)) 9) (.v (Go.Value.int Go.IntKind.i64 1)))).bind fun r30 =>
  some (.normal, ⟨((9, r30.1) :: (8, r29.1) :: (29, r23.1) :: (prune kp_r01_number (prune kp_r01_number (prune kp_r01_number s.env)))), r30.2⟩)) (some (.exit 0, ⟨((29, r23.1) :: (prune kp_r01_number s.env)), r23.2⟩))
noncomputable def B_r01_number_0 (_E : FnA) (_n _n0 : Nat) (x9 x8 x25 x7 x6 x0 x1 x2 : AV) (y : Bx) : Option (Ex × S) :=
  (pv y (binA Try.prog .geq 3 x9 (.v (Go.Value.int Go.IntKind.i64 0)))).bind fun r15 =>
  condA r15.1 ((pv r15.2 (binA Try.prog .mul 74 (.v (Go.Value.int Go.IntKind.u64 256)) x8)).bind fun r16 =>
  (pv r16.2 (binA Try.prog .add 3 x1 x9)).bind fun r17 =>
  (pv r17.2 (indexAddrA Try.prog 35 x0 r17.1)).bind fun r18 =>
  (pv r18.2 (loadA Try.prog 5 r18.2 r18.1)).bind fun r19 =>
  (convA Try.prog r19.2 5 74 r19.1).bind fun r20 =>
  (pv r20.2 (binA Try.prog .add 74 r16.1 r20.1)).bind fun r21 =>
  (pv r21.2 (binA Try.prog .sub 3 x9 (.v (Go.Value.int Go.IntKind.i64 1)))).bind fun r22 =>
  some (.normal, ⟨[(9, r22.1), (8, r21.1), (29, r15.1), (9, x9), (8, x8), (25, x25), (7, x7), (6, x6), (0, x0), (1, x1), (2, x2)], r22.2⟩)) (some (.exit 0, ⟨[(29, r15.1), (9, x9), (8, x8), (25, x25), (7, x7), (6, x6), (0, x0), (1, x1), (2, x2)], r15.2⟩))
theorem L_r01_number_0_lit {E : FnA} {n n0 : Nat} {x9 x8 x25 x7 x6 x0 x1 x2 : AV} {y : Bx} {Q : Ex → S → Prop} (h : Ends (B_r01_number_0 E n n0 x9 x8 x25 x7 x6 x0 x1 x2 y) Q) : Ends (L_r01_number_0 E n n0 ⟨[(9, x9), (8, x8), (25, x25), (7, x7), (6, x6), (0, x0), (1, x1), (2, x2)], y⟩) Q := by
  rw [show L_r01_number_0 E n n0 ⟨[(9, x9), (8, x8), (25, x25), (7, x7), (6, x6), (0, x0), (1, x1), (2, x2)], y⟩ = B_r01_number_0 E n n0 x9 x8 x25 x7 x6 x0 x1 x2 y by kernel_rfl]
  exact h
noncomputable def K_r01_number_0 (_E : FnA) (_n _n0 : Nat) (t : S) : Option (Ex × S) :=
  some (.ret, ⟨((7, (.v (Go.Value.int Go.IntKind.i64 0))) :: (6, (get t.env 8)) :: (prune kp_r01_number t.env)), t.bx⟩)
noncomputable def X_r01_number_0 (_E : FnA) (_n _n0 : Nat) (i : Nat) (t : S) : Option (Ex × S) :=
  if i = 0 then some (.ret, ⟨((7, (.v (Go.Value.int Go.IntKind.i64 0))) :: (6, (get t.env 8)) :: (prune kp_r01_number t.env)), t.bx⟩) else some (.exit i, ⟨t.env, t.bx⟩)
noncomputable def X_r01_number_0_0 (_E : FnA) (_n _n0 : Nat) (x29 x9 x8 x25 x7 x6 x0 x1 x2 : AV) (y : Bx) : Option (Ex × S) :=
  some (.ret, ⟨[(7, (.v (Go.Value.int Go.IntKind.i64 0))), (6, x8), (29, x29), (9, x9), (8, x8), (25, x25), (7, x7), (6, x6), (0, x0), (1, x1), (2, x2)], y⟩)
theorem X_r01_number_0_0_lit {E : FnA} {n n0 : Nat} {x29 x9 x8 x25 x7 x6 x0 x1 x2 : AV} {y : Bx} {Q : Ex → S → Prop} (h : Ends (X_r01_number_0_0 E n n0 x29 x9 x8 x25 x7 x6 x0 x1 x2 y) Q) : Ends (X_r01_number_0 E n n0 0 ⟨[(29, x29), (9, x9), (8, x8), (25, x25), (7, x7), (6, x6), (0, x0), (1, x1), (2, x2)], y⟩) Q := by
  rw [show X_r01_number_0 E n n0 0 ⟨[(29, x29), (9, x9), (8, x8), (25, x25), (7, x7), (6, x6), (0, x0), (1, x1), (2, x2)], y⟩ = X_r01_number_0_0 E n n0 x29 x9 x8 x25 x7 x6 x0 x1 x2 y by kernel_rfl]
  exact h
noncomputable def F_r01_number (E : FnA) (n n0 : Nat) (a0 a1 a2 : AV) (bx : Bx) : Option (Ex × S) :=
  (pv bx (binA Try.prog .lss 3 a1 (.v (Go.Value.int Go.IntKind.i64 0)))).bind fun r1 =>
  (gsel false r1.2 (some (a1, r1.2)) r1.1).bind fun r2 =>
  (gsel false r2.2 (some (a0, r2.2)) r1.1).bind fun r3 =>
  (gsel false r3.2 (pv r3.2 (lenA Try.prog 35 r3.1)) r1.1).bind fun r4 =>
  (gsel false r4.2 (pv r4.2 (binA Try.prog .gtr 3 r2.1 r4.1)) r1.1).bind fun r5 =>
  (pv r5.2 (pickA r1.1 (.v (Go.Value.bool true)) r5.1)).bind fun r6 =>
  (gsel false r6.2 (some (a0, r6.2)) r6.1).bind fun r7 =>
  (gsel false r7.2 (pv r7.2 (lenA Try.prog 35 r7.1)) r6.1).bind fun r8 =>
  (gsel false r8.2 (some (a1, r8.2)) r6.1).bind fun r9 =>
  (gsel false r9.2 (pv r9.2 (binA Try.prog .sub 3 r8.1 r9.1)) r6.1).bind fun r10 =>
  (gsel false r10.2 (some (a2, r10.2)) r6.1).bind fun r11 =>
  (gsel false r11.2 (pv r11.2 (binA Try.prog .lss 3 r10.1 r11.1)) r6.1).bind fun r12 =>
  (pv r12.2 (pickA r6.1 (.v (Go.Value.bool true)) r12.1)).bind fun r13 =>
  condA r13.1 (some (.ret, ⟨[(7, (.v (Go.Value.int Go.IntKind.i64 7))), (6, (.v (Go.Value.int Go.IntKind.u64 0))), (25, r13.1), (7, (.v (Go.Value.int Go.IntKind.i64 0))), (6, (.v (Go.Value.int Go.IntKind.u64 0))), (0, a0), (1, a1), (2, a2)], r13.2⟩)) ((pv r13.2 (binA Try.prog .sub 3 a2 (.v (Go.Value.int Go.IntKind.i64 1)))).bind fun r14 =>
  exitA (iter ⟨[(9, r14.1), (8, (.v (Go.Value.int Go.IntKind.u64 0))), (25, r13.1), (7, (.v (Go.Value.int Go.IntKind.i64 0))), (6, (.v (Go.Value.int Go.IntKind.u64 0))), (0, a0), (1, a1), (2, a2)], r14.2⟩ (L_r01_number_0 E n n0) n ⟨[(9, r14.1), (8, (.v (Go.Value.int Go.IntKind.u64 0))), (25, r13.1), (7, (.v (Go.Value.int Go.IntKind.i64 0))), (6, (.v (Go.Value.int Go.IntKind.u64 0))), (0, a0), (1, a1), (2, a2)], r14.2⟩) (K_r01_number_0 E n n0) (X_r01_number_0 E n n0))
theorem c_r01_number_eq : Try.f36.body = some c_r01_number := by kernel_rfl
theorem d_r01_number : drawsOk Try.prog md0 c_r01_number = true := by kernel_rfl
theorem F_r01_number_eq (E : FnA) (n n0 : Nat) (a0 a1 a2 : AV) (bx : Bx) : evK Try.prog md0 E 43 kp_r01_number n n0 c_r01_number ⟨[(0, a0), (1, a1), (2, a2)], bx⟩ (fun s => some (.normal, s)) (fun i s => some (.exit i, s)) = F_r01_number E n n0 a0 a1 a2 bx := by kernel_rfl

theorem E_r01_number (n : Nat) (a0 a1 a2 : AV) (bx : Bx) : evFn cx0 ext0 (n + 1) 36 [a0, a1, a2] bx = fin Try.prog [.tmp 6, .tmp 7] (F_r01_number (evFn cx0 ext0 n) n bx.length a0 a1 a2 bx) := by
  rw [evFn_eq2 (cx := cx0) (c := c_r01_number) rfl Try.func36 c_r01_number_eq (of_decide_eq_true (by kernel_rfl)) d_r01_number (of_decide_eq_true (by kernel_rfl))]
  exact congrArg (fin Try.prog [.tmp 6, .tmp 7]) (F_r01_number_eq (evFn cx0 ext0 n) n bx.length a0 a1 a2 bx)

end Go.Sy
