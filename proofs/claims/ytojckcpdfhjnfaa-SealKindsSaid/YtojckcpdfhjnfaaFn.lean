/-
  What the functions under this seat's laws read as, in the reader's words; no conditions.
-/
import Derived.Test.YtojckcpdfhjnfaaSyStep
import Derived.Test.YtojckcpdfhjnfaaProg
import Derived.KernelRfl
namespace Go.Sy
open Go.Proofs
def kpT : FuncId → Option (List Nat)
  | 3 => some [0, 1, 2, 3, 6, 7, 8, 9, 10, 11, 12, 13, 14, 15, 16, 17, 18]
  | 4 => some [0, 1, 2, 5, 6, 7, 8, 9, 10, 11, 13, 29]
  | 5 => some [0, 1, 2, 3, 4, 7, 10, 11, 12, 14]
  | 6 => some [0, 1, 2, 3, 4, 7, 13, 15, 30]
  | 7 => some [0, 1, 2, 3, 5, 6, 7, 8, 9, 10, 11, 12]
  | 8 => some [0, 1, 2, 5, 6, 7, 8, 9, 10, 13]
  | 9 => some [0, 1, 2, 5, 6, 7, 8, 11]
  | 10 => some [0, 1, 3, 4, 5, 6, 7, 12]
  | 11 => some [0, 1, 3, 4, 5, 6, 7, 9, 11, 12, 15, 45, 49]
  | 12 => some [0, 1, 2, 5]
  | 13 => some [0, 1, 2, 3, 6, 8, 19]
  | 14 => some [0, 1, 2, 4, 5]
  | 15 => some [0, 1, 2, 4, 5, 6, 7, 8, 10]
  | 16 => some [0, 1, 2, 4, 5, 6, 7, 8, 9, 13]
  | 17 => some [0, 1, 2, 3, 4, 5, 8, 13]
  | 18 => some [0, 1, 2, 3, 4, 5, 6, 9, 17, 19]
  | 19 => some [0, 2]
  | 20 => some [0, 2, 3, 4, 5, 6]
  | 21 => some [0, 2, 3, 5, 7, 8, 9, 10]
  | 22 => some [0, 2]
  | 23 => some [0, 2]
  | 24 => some [0, 2]
  | 25 => some [0, 1, 2, 3, 4, 5]
  | 26 => some [0, 1, 2, 3]
  | 27 => some [0, 1, 4, 5, 6, 7]
  | 28 => some [0]
  | 29 => some [0, 1, 2, 4, 6, 7, 8, 9, 10]
  | 30 => some [0, 1, 2]
  | 31 => some [0, 1, 4, 5, 9]
  | 32 => some [0, 1, 4, 5]
  | 33 => some [0, 1, 2, 6, 7, 8, 9, 25, 29]
  | 34 => some [0, 1, 4, 5, 6, 7, 8]
  | 35 => some [0, 1, 4, 5, 6, 9, 17]
  | 36 => some [0, 1, 2, 6, 7, 8, 9, 25, 26, 27, 28]
  | _ => none
def mdT : FuncId → FuncId → Md
  | _ => md0
noncomputable def cx0 : Cx := { P := Try.prog, md := mdT, kp := kpT }
def ext0 : FnA := fun _ _ _ => none
theorem ext0_ok (f : FuncId) (args : List AV) (bx : Bx) (r : AV) (bx' : Bx) (h : ext0 f args bx = some (r, bx')) : Sound cx0.P f args bx r bx' := by simp [ext0] at h
/-- scupper/scupperlaw07.SealPuts -/
def kp_l07_SealPuts : Option (List Nat) := some [0, 1, 2, 3, 6, 7, 8, 9, 10, 11, 12, 13, 14, 15, 16, 17, 18]
noncomputable def c_l07_SealPuts : Code := Try.f3.body.getD .skip
noncomputable def F_l07_SealPuts (E : FnA) (_n _n0 : Nat) (a0 a1 a2 a3 : AV) (bx : Bx) : Option (Ex × S) :=
  (boxA bx a2).bind fun r1 =>
  (boxA r1.2 a3).bind fun r2 =>
  (pv r2.2 (loadA Try.prog 24 r2.2 r1.1)).bind fun r3 =>
  (callA E md0 r3.2 8 [a0, a1, r3.1]).bind fun r4 =>
  (pv r4.2 (tupA r4.1 0)).bind fun r5 =>
  (pv r5.2 (tupA r4.1 1)).bind fun r6 =>
  (allocA Try.prog r6.2 26).bind fun r7 =>
  (stA Try.prog 26 r7.2 r7.1 r5.1).bind fun r8 =>
  (pv r8.2 (loadA Try.prog 24 r8.2 r1.1)).bind fun r9 =>
  (callA E md0 r9.2 9 [a0, a1, r9.1]).bind fun r10 =>
  (pv r10.2 (tupA r10.1 0)).bind fun r11 =>
  (pv r11.2 (tupA r10.1 1)).bind fun r12 =>
  (allocA Try.prog r12.2 26).bind fun r13 =>
  (stA Try.prog 26 r13.2 r13.1 r11.1).bind fun r14 =>
  (pv r14.2 (loadA Try.prog 26 r14.2 r2.1)).bind fun r15 =>
  (callA E md0 r15.2 10 [a0, r15.1]).bind fun r16 =>
  (pv r16.2 (tupA r16.1 0)).bind fun r17 =>
  (pv r17.2 (tupA r16.1 1)).bind fun r18 =>
  (pv r18.2 (tupA r16.1 2)).bind fun r19 =>
  (allocA Try.prog r19.2 24).bind fun r20 =>
  (stA Try.prog 24 r20.2 r20.1 r17.1).bind fun r21 =>
  (pv r21.2 (loadA Try.prog 26 r21.2 r2.1)).bind fun r22 =>
  (callA E md0 r22.2 11 [a0, r22.1]).bind fun r23 =>
  (pv r23.2 (tupA r23.1 0)).bind fun r24 =>
  (pv r24.2 (tupA r23.1 1)).bind fun r25 =>
  (pv r25.2 (tupA r23.1 2)).bind fun r26 =>
  (allocA Try.prog r26.2 24).bind fun r27 =>
  (stA Try.prog 24 r27.2 r27.1 r24.1).bind fun r28 =>
  (pv r28.2 (loadA Try.prog 26 r28.2 r7.1)).bind fun r29 =>
  (pv r29.2 (loadA Try.prog 26 r29.2 r13.1)).bind fun r30 =>
  (pv r30.2 (binA Try.prog .eql 26 r29.1 r30.1)).bind fun r31 =>
  (gsel true r31.2 (some (r6.1, r31.2)) r31.1).bind fun r32 =>
  (gsel true r32.2 (some (r12.1, r32.2)) r31.1).bind fun r33 =>
  (gsel true r33.2 (pv r33.2 (binA Try.prog .eql 27 r32.1 r33.1)) r31.1).bind fun r34 =>
  (pv r34.2 (pickA r31.1 r34.1 (.v (Go.Value.bool false)))).bind fun r35 =>
  (gsel true r35.2 (pv r35.2 (loadA Try.prog 24 r35.2 r20.1)) r35.1).bind fun r36 =>
  (gsel true r36.2 (pv r36.2 (loadA Try.prog 24 r36.2 r27.1)) r35.1).bind fun r37 =>
  (gsel true r37.2 (pv r37.2 (binA Try.prog .eql 24 r36.1 r37.1)) r35.1).bind fun r38 =>
  (pv r38.2 (pickA r35.1 r38.1 (.v (Go.Value.bool false)))).bind fun r39 =>
  (gsel true r39.2 (some (r18.1, r39.2)) r39.1).bind fun r40 =>
  (gsel true r40.2 (some (r25.1, r40.2)) r39.1).bind fun r41 =>
  (gsel true r41.2 (pv r41.2 (binA Try.prog .eql 22 r40.1 r41.1)) r39.1).bind fun r42 =>
  (pv r42.2 (pickA r39.1 r42.1 (.v (Go.Value.bool false)))).bind fun r43 =>
  (gsel true r43.2 (some (r19.1, r43.2)) r43.1).bind fun r44 =>
  (gsel true r44.2 (some (r26.1, r44.2)) r43.1).bind fun r45 =>
  (gsel true r45.2 (pv r45.2 (binA Try.prog .eql 27 r44.1 r45.1)) r43.1).bind fun r46 =>
  (pv r46.2 (pickA r43.1 r46.1 (.v (Go.Value.bool false)))).bind fun r47 =>
  (gsel true r47.2 (pv r47.2 (loadA Try.prog 26 r47.2 r2.1)) r47.1).bind fun r48 =>
  (gsel true r48.2 (callA E md0 r48.2 12 [r48.1]) r47.1).bind fun r49 =>
  (gsel true r49.2 (pv r49.2 (loadA Try.prog 26 r49.2 r2.1)) r47.1).bind fun r50 =>
  (gsel true r50.2 (callA E md0 r50.2 13 [r50.1]) r47.1).bind fun r51 =>
  (gsel true r51.2 (pv r51.2 (binA Try.prog .eql 3 r49.1 r51.1)) r47.1).bind fun r52 =>
  (pv r52.2 (pickA r47.1 r52.1 (.v (Go.Value.bool false)))).bind fun r53 =>
  (gsel true r53.2 (callA E md0 r53.2 14 []) r53.1).bind fun r54 =>
  (pv r54.2 (pickA r53.1 r54.1 (.v (Go.Value.bool false)))).bind fun r55 =>
  some (.ret, ⟨[(8, r55.1), (18, r26.1), (17, r25.1), (16, r27.1), (15, r19.1), (14, r18.1), (13, r20.1), (12, r12.1), (11, r13.1), (10, r6.1), (9, r7.1), (8, (.v (Go.Value.bool false))), (7, r2.1), (6, r1.1), (0, a0), (1, a1), (2, a2), (3, a3)], r55.2⟩)
theorem c_l07_SealPuts_eq : Try.f3.body = some c_l07_SealPuts := by kernel_rfl
theorem d_l07_SealPuts : drawsOk Try.prog md0 c_l07_SealPuts = true := by kernel_rfl
theorem F_l07_SealPuts_eq (E : FnA) (n n0 : Nat) (a0 a1 a2 a3 : AV) (bx : Bx) : evK Try.prog md0 E 80 kp_l07_SealPuts n n0 c_l07_SealPuts ⟨[(0, a0), (1, a1), (2, a2), (3, a3)], bx⟩ (fun s => some (.normal, s)) (fun i s => some (.exit i, s)) = F_l07_SealPuts E n n0 a0 a1 a2 a3 bx := by kernel_rfl

theorem E_l07_SealPuts (n : Nat) (a0 a1 a2 a3 : AV) (bx : Bx) : evFn cx0 ext0 (n + 1) 3 [a0, a1, a2, a3] bx = fin Try.prog [.tmp 8] (F_l07_SealPuts (evFn cx0 ext0 n) n bx.length a0 a1 a2 a3 bx) := by
  rw [evFn_eq2 (cx := cx0) (c := c_l07_SealPuts) rfl Try.func3 c_l07_SealPuts_eq (of_decide_eq_true (by kernel_rfl)) d_l07_SealPuts (of_decide_eq_true (by kernel_rfl))]
  exact congrArg (fin Try.prog [.tmp 8]) (F_l07_SealPuts_eq (evFn cx0 ext0 n) n bx.length a0 a1 a2 a3 bx)

/-- scupper/scupperlaw07.SealBack -/
def kp_l07_SealBack : Option (List Nat) := some [0, 1, 2, 5, 6, 7, 8, 9, 10, 11, 13, 29]
noncomputable def c_l07_SealBack : Code := Try.f4.body.getD .skip
noncomputable def F_l07_SealBack (E : FnA) (_n _n0 : Nat) (a0 a1 a2 : AV) (bx : Bx) : Option (Ex × S) :=
  (boxA bx a2).bind fun r1 =>
  (callA E md0 r1.2 14 []).bind fun r2 =>
  (pv r2.2 (unA .not r2.1)).bind fun r3 =>
  condA r3.1 (some (.ret, ⟨[(6, (.v (Go.Value.bool false))), (13, r3.1), (6, (.v (Go.Value.bool false))), (5, r1.1), (0, a0), (1, a1), (2, a2)], r3.2⟩)) ((pv r3.2 (loadA Try.prog 24 r3.2 r1.1)).bind fun r4 =>
  (callA E md0 r4.2 8 [a0, a1, r4.1]).bind fun r5 =>
  (pv r5.2 (tupA r5.1 0)).bind fun r6 =>
  (pv r6.2 (tupA r5.1 1)).bind fun r7 =>
  (allocA Try.prog r7.2 26).bind fun r8 =>
  (stA Try.prog 26 r8.2 r8.1 r6.1).bind fun r9 =>
  (pv r9.2 (loadA Try.prog 26 r9.2 r8.1)).bind fun r10 =>
  (callA E md0 r10.2 10 [a0, r10.1]).bind fun r11 =>
  (pv r11.2 (tupA r11.1 0)).bind fun r12 =>
  (pv r12.2 (tupA r11.1 1)).bind fun r13 =>
  (pv r13.2 (tupA r11.1 2)).bind fun r14 =>
  (allocA Try.prog r14.2 24).bind fun r15 =>
  (stA Try.prog 24 r15.2 r15.1 r12.1).bind fun r16 =>
  (pv r16.2 (binA Try.prog .neq 27 r7.1 (.v (Go.Value.int Go.IntKind.i64 0)))).bind fun r17 =>
  condA r17.1 ((pv r17.2 (binA Try.prog .eql 27 r7.1 (.v (Go.Value.int Go.IntKind.i64 2)))).bind fun r18 =>
  (gsel true r18.2 (some (r14.1, r18.2)) r18.1).bind fun r19 =>
  (gsel true r19.2 (some (r7.1, r19.2)) r18.1).bind fun r20 =>
  (gsel true r20.2 (pv r20.2 (binA Try.prog .eql 27 r19.1 r20.1)) r18.1).bind fun r21 =>
  (pv r21.2 (pickA r18.1 r21.1 (.v (Go.Value.bool false)))).bind fun r22 =>
  (gsel true r22.2 (pv r22.2 (loadA Try.prog 26 r22.2 r8.1)) r22.1).bind fun r23 =>
  (gsel true r23.2 (pv r23.2 (buildA Try.prog 26 [])) r22.1).bind fun r24 =>
  (gsel true r24.2 (pv r24.2 (binA Try.prog .eql 26 r23.1 r24.1)) r22.1).bind fun r25 =>
  (pv r25.2 (pickA r22.1 r25.1 (.v (Go.Value.bool false)))).bind fun r26 =>
  some (.ret, ⟨[(6, r26.1), (29, r17.1), (11, r14.1), (10, r13.1), (9, r15.1), (8, r7.1), (7, r8.1), (13, r3.1), (6, (.v (Go.Value.bool false))), (5, r1.1), (0, a0), (1, a1), (2, a2)], r26.2⟩)) ((pv r17.2 (binA Try.prog .eql 27 r14.1 (.v (Go.Value.int Go.IntKind.i64 0)))).bind fun r27 =>
  (gsel true r27.2 (pv r27.2 (loadA Try.prog 24 r27.2 r15.1)) r27.1).bind fun r28 =>
  (gsel true r28.2 (pv r28.2 (loadA Try.prog 24 r28.2 r1.1)) r27.1).bind fun r29 =>
  (gsel true r29.2 (pv r29.2 (binA Try.prog .eql 24 r28.1 r29.1)) r27.1).bind fun r30 =>
  (pv r30.2 (pickA r27.1 r30.1 (.v (Go.Value.bool false)))).bind fun r31 =>
  (gsel true r31.2 (some (r13.1, r31.2)) r31.1).bind fun r32 =>
  (gsel true r32.2 (some (a1, r32.2)) r31.1).bind fun r33 =>
  (gsel true r33.2 (pv r33.2 (binA Try.prog .eql 22 r32.1 r33.1)) r31.1).bind fun r34 =>
  (pv r34.2 (pickA r31.1 r34.1 (.v (Go.Value.bool false)))).bind fun r35 =>
  (gsel true r35.2 (pv r35.2 (loadA Try.prog 26 r35.2 r8.1)) r35.1).bind fun r36 =>
  (gsel true r36.2 (callA E md0 r36.2 12 [r36.1]) r35.1).bind fun r37 =>
  (gsel true r37.2 (some (a0, r37.2)) r35.1).bind fun r38 =>
  (gsel true r38.2 (pv r38.2 (binA Try.prog .eql 3 r37.1 r38.1)) r35.1).bind fun r39 =>
  (pv r39.2 (pickA r35.1 r39.1 (.v (Go.Value.bool false)))).bind fun r40 =>
  some (.ret, ⟨[(6, r40.1), (29, r17.1), (11, r14.1), (10, r13.1), (9, r15.1), (8, r7.1), (7, r8.1), (13, r3.1), (6, (.v (Go.Value.bool false))), (5, r1.1), (0, a0), (1, a1), (2, a2)], r40.2⟩)))
theorem c_l07_SealBack_eq : Try.f4.body = some c_l07_SealBack := by kernel_rfl
theorem d_l07_SealBack : drawsOk Try.prog md0 c_l07_SealBack = true := by kernel_rfl
theorem F_l07_SealBack_eq (E : FnA) (n n0 : Nat) (a0 a1 a2 : AV) (bx : Bx) : evK Try.prog md0 E 60 kp_l07_SealBack n n0 c_l07_SealBack ⟨[(0, a0), (1, a1), (2, a2)], bx⟩ (fun s => some (.normal, s)) (fun i s => some (.exit i, s)) = F_l07_SealBack E n n0 a0 a1 a2 bx := by kernel_rfl

theorem E_l07_SealBack (n : Nat) (a0 a1 a2 : AV) (bx : Bx) : evFn cx0 ext0 (n + 1) 4 [a0, a1, a2] bx = fin Try.prog [.tmp 6] (F_l07_SealBack (evFn cx0 ext0 n) n bx.length a0 a1 a2 bx) := by
  rw [evFn_eq2 (cx := cx0) (c := c_l07_SealBack) rfl Try.func4 c_l07_SealBack_eq (of_decide_eq_true (by kernel_rfl)) d_l07_SealBack (of_decide_eq_true (by kernel_rfl))]
  exact congrArg (fin Try.prog [.tmp 6]) (F_l07_SealBack_eq (evFn cx0 ext0 n) n bx.length a0 a1 a2 bx)

/-- scupper/scupperlaw07.SealOne -/
def kp_l07_SealOne : Option (List Nat) := some [0, 1, 2, 3, 4, 7, 10, 11, 12, 14]
noncomputable def c_l07_SealOne : Code := Try.f5.body.getD .skip
noncomputable def F_l07_SealOne (E : FnA) (_n _n0 : Nat) (a0 a1 a2 a3 a4 : AV) (bx : Bx) : Option (Ex × S) :=
  (boxA bx a2).bind fun r1 =>
  (callA E md0 r1.2 14 []).bind fun r2 =>
  (pv r2.2 (unA .not r2.1)).bind fun r3 =>
  condA r3.1 (some (.ret, ⟨[(10, (.v (Go.Value.bool false))), (14, r3.1), (10, (.v (Go.Value.bool false))), (7, r1.1), (0, a0), (1, a1), (2, a2), (3, a3), (4, a4)], r3.2⟩)) ((pv r3.2 (binA Try.prog .rem 5 a0 (.v (Go.Value.int Go.IntKind.u8 6)))).bind fun r4 =>
  (convA Try.prog r4.2 5 3 r4.1).bind fun r5 =>
  (pv r5.2 (binA Try.prog .add 3 (.v (Go.Value.int Go.IntKind.i64 1)) r5.1)).bind fun r6 =>
  (pv r6.2 (loadA Try.prog 24 r6.2 r1.1)).bind fun r7 =>
  (callA E md0 r7.2 8 [r6.1, a1, r7.1]).bind fun r8 =>
  (pv r8.2 (tupA r8.1 0)).bind fun r9 =>
  (pv r9.2 (tupA r8.1 1)).bind fun r10 =>
  (allocA Try.prog r10.2 26).bind fun r11 =>
  (stA Try.prog 26 r11.2 r11.1 r9.1).bind fun r12 =>
  (pv r12.2 (binA Try.prog .rem 5 a3 (.v (Go.Value.int Go.IntKind.u8 64)))).bind fun r13 =>
  (pv r13.2 (indexAddrA Try.prog 26 r11.1 r13.1)).bind fun r14 =>
  (pv r14.2 (loadA Try.prog 5 r14.2 r14.1)).bind fun r15 =>
  (pv r15.2 (binA Try.prog .xor 5 r15.1 a4)).bind fun r16 =>
  (pv r16.2 (indexAddrA Try.prog 26 r11.1 r13.1)).bind fun r17 =>
  (stA Try.prog 5 r17.2 r17.1 r16.1).bind fun r18 =>
  (pv r18.2 (binA Try.prog .eql 27 r10.1 (.v (Go.Value.int Go.IntKind.i64 0)))).bind fun r19 =>
  (gsel true r19.2 (pv r19.2 (loadA Try.prog 26 r19.2 r11.1)) r19.1).bind fun r20 =>
  (gsel true r20.2 (callA E md0 r20.2 12 [r20.1]) r19.1).bind fun r21 =>
  (gsel true r21.2 (pv r21.2 (binA Try.prog .eql 3 r21.1 (.v (Go.Value.int Go.IntKind.i64 0)))) r19.1).bind fun r22 =>
  (gsel true r22.2 (some (a4, r22.2)) r19.1).bind fun r23 =>
  (gsel true r23.2 (pv r23.2 (binA Try.prog .neq 5 r23.1 (.v (Go.Value.int Go.IntKind.u8 0)))) r19.1).bind fun r24 =>
  (gsel true r24.2 (pv r24.2 (binA Try.prog .eql 4 r22.1 r24.1)) r19.1).bind fun r25 =>
  (pv r25.2 (pickA r19.1 r25.1 (.v (Go.Value.bool false)))).bind fun r26 =>
  some (.ret, ⟨[(10, r26.1), (12, r10.1), (11, r11.1), (14, r3.1), (10, (.v (Go.Value.bool false))), (7, r1.1), (0, a0), (1, a1), (2, a2), (3, a3), (4, a4)], r26.2⟩))
theorem c_l07_SealOne_eq : Try.f5.body = some c_l07_SealOne := by kernel_rfl
theorem d_l07_SealOne : drawsOk Try.prog md0 c_l07_SealOne = true := by kernel_rfl
theorem F_l07_SealOne_eq (E : FnA) (n n0 : Nat) (a0 a1 a2 a3 a4 : AV) (bx : Bx) : evK Try.prog md0 E 42 kp_l07_SealOne n n0 c_l07_SealOne ⟨[(0, a0), (1, a1), (2, a2), (3, a3), (4, a4)], bx⟩ (fun s => some (.normal, s)) (fun i s => some (.exit i, s)) = F_l07_SealOne E n n0 a0 a1 a2 a3 a4 bx := by kernel_rfl

theorem E_l07_SealOne (n : Nat) (a0 a1 a2 a3 a4 : AV) (bx : Bx) : evFn cx0 ext0 (n + 1) 5 [a0, a1, a2, a3, a4] bx = fin Try.prog [.tmp 10] (F_l07_SealOne (evFn cx0 ext0 n) n bx.length a0 a1 a2 a3 a4 bx) := by
  rw [evFn_eq2 (cx := cx0) (c := c_l07_SealOne) rfl Try.func5 c_l07_SealOne_eq (of_decide_eq_true (by kernel_rfl)) d_l07_SealOne (of_decide_eq_true (by kernel_rfl))]
  exact congrArg (fin Try.prog [.tmp 10]) (F_l07_SealOne_eq (evFn cx0 ext0 n) n bx.length a0 a1 a2 a3 a4 bx)

/-- scupper/scupperlaw07.SealKinds -/
def kp_l07_SealKinds : Option (List Nat) := some [0, 1, 2, 3, 4, 7, 13, 15, 30]
noncomputable def c_l07_SealKinds : Code := Try.f6.body.getD .skip
noncomputable def L_l07_SealKinds_0 (E : FnA) (_n _n0 : Nat) (s : S) : Option (Ex × S) :=
  (pv s.bx (binA Try.prog .lss 3 (get s.env 4) (.v (Go.Value.int Go.IntKind.i64 7)))).bind fun r19 =>
  condA r19.1 ((pv r19.2 (loadA Try.prog 26 r19.2 (get (prune kp_l07_SealKinds s.env) 1))).bind fun r20 =>
  (callA E md0 r20.2 10 [(get (prune kp_l07_SealKinds s.env) 4), r20.1]).bind fun r21 =>
  (pv r21.2 (tupA r21.1 0)).bind fun r22 =>
  (pv r22.2 (tupA r21.1 1)).bind fun r23 =>
  (pv r23.2 (tupA r21.1 2)).bind fun r24 =>
  (allocA Try.prog r24.2 24).bind fun r25 =>
  (stA Try.prog 24 r25.2 r25.1 r22.1).bind fun r26 =>
  (pv r26.2 (binA Try.prog .eql 27 r24.1 (.v (Go.Value.int Go.IntKind.i64 0)))).bind fun r27 =>
  (pv r27.2 (binA Try.prog .eql 3 (get (prune kp_l07_SealKinds (prune kp_l07_SealKinds s.env)) 4) (get (prune kp_l07_SealKinds (prune kp_l07_SealKinds s.env)) 3))).bind fun r28 =>
  (pv r28.2 (binA Try.prog .neq 4 r27.1 r28.1)).bind fun r29 =>
  condA r29.1 (some (.ret, ⟨((2, (.v (Go.Value.bool false))) :: (30, r29.1) :: (7, r24.1) :: (15, r19.1) :: (prune kp_l07_SealKinds (prune kp_l07_SealKinds (prune kp_l07_SealKinds (prune kp_l07_SealKinds s.env))))), r29.2⟩)) ((pv r29.2 (binA Try.prog .add 3 (get (prune kp_l07_SealKinds (prune kp_l07_SealKinds (prune kp_l07_SealKinds s.env))) 4) (.v (Go.Value.int Go.IntKind.i64 1)))).bind fun r30 =>
  some (.normal, ⟨((4, r30.1) :: (30, r29.1) :: (7, r24.1) :: (15, r19.1) :: (prune kp_l07_SealKinds (prune kp_l07_SealKinds (prune kp_l07_SealKinds (prune kp_l07_SealKinds s.env))))), r30.2⟩))) (some (.exit 0, ⟨((15, r19.1) :: (prune kp_l07_SealKinds s.env)), r19.2⟩))
noncomputable def B_l07_SealKinds_0 (E : FnA) (_n _n0 : Nat) (x4 x13 x3 x2 x1 x0 : AV) (y : Bx) : Option (Ex × S) :=
  (pv y (binA Try.prog .lss 3 x4 (.v (Go.Value.int Go.IntKind.i64 7)))).bind fun r7 =>
  condA r7.1 ((pv r7.2 (loadA Try.prog 26 r7.2 x1)).bind fun r8 =>
  (callA E md0 r8.2 10 [x4, r8.1]).bind fun r9 =>
  (pv r9.2 (tupA r9.1 0)).bind fun r10 =>
  (pv r10.2 (tupA r9.1 1)).bind fun r11 =>
  (pv r11.2 (tupA r9.1 2)).bind fun r12 =>
  (allocA Try.prog r12.2 24).bind fun r13 =>
  (stA Try.prog 24 r13.2 r13.1 r10.1).bind fun r14 =>
  (pv r14.2 (binA Try.prog .eql 27 r12.1 (.v (Go.Value.int Go.IntKind.i64 0)))).bind fun r15 =>
  (pv r15.2 (binA Try.prog .eql 3 x4 x3)).bind fun r16 =>
  (pv r16.2 (binA Try.prog .neq 4 r15.1 r16.1)).bind fun r17 =>
  condA r17.1 (some (.ret, ⟨[(2, (.v (Go.Value.bool false))), (30, r17.1), (7, r12.1), (15, r7.1), (4, x4), (13, x13), (3, x3), (2, x2), (1, x1), (0, x0)], r17.2⟩)) ((pv r17.2 (binA Try.prog .add 3 x4 (.v (Go.Value.int Go.IntKind.i64 1)))).bind fun r18 =>
  some (.normal, ⟨[(4, r18.1), (30, r17.1), (7, r12.1), (15, r7.1), (4, x4), (13, x13), (3, x3), (2, x2), (1, x1), (0, x0)], r18.2⟩))) (some (.exit 0, ⟨[(15, r7.1), (4, x4), (13, x13), (3, x3), (2, x2), (1, x1), (0, x0)], r7.2⟩))
theorem L_l07_SealKinds_0_lit {E : FnA} {n n0 : Nat} {x4 x13 x3 x2 x1 x0 : AV} {y : Bx} {Q : Ex → S → Prop} (h : Ends (B_l07_SealKinds_0 E n n0 x4 x13 x3 x2 x1 x0 y) Q) : Ends (L_l07_SealKinds_0 E n n0 ⟨[(4, x4), (13, x13), (3, x3), (2, x2), (1, x1), (0, x0)], y⟩) Q := by
  rw [show L_l07_SealKinds_0 E n n0 ⟨[(4, x4), (13, x13), (3, x3), (2, x2), (1, x1), (0, x0)], y⟩ = B_l07_SealKinds_0 E n n0 x4 x13 x3 x2 x1 x0 y by kernel_rfl]
  exact h
noncomputable def K_l07_SealKinds_0 (E : FnA) (_n _n0 : Nat) (t : S) : Option (Ex × S) :=
  (callA E md0 t.bx 14 []).bind fun r32 =>
  some (.ret, ⟨((2, r32.1) :: (prune kp_l07_SealKinds t.env)), r32.2⟩)
noncomputable def X_l07_SealKinds_0 (E : FnA) (_n _n0 : Nat) (i : Nat) (t : S) : Option (Ex × S) :=
  if i = 0 then (callA E md0 t.bx 14 []).bind fun r31 =>
  some (.ret, ⟨((2, r31.1) :: (prune kp_l07_SealKinds t.env)), r31.2⟩) else some (.exit i, ⟨t.env, t.bx⟩)
noncomputable def X_l07_SealKinds_0_0 (E : FnA) (_n _n0 : Nat) (x15 x4 x13 x3 x2 x1 x0 : AV) (y : Bx) : Option (Ex × S) :=
  (callA E md0 y 14 []).bind fun r33 =>
  some (.ret, ⟨[(2, r33.1), (15, x15), (4, x4), (13, x13), (3, x3), (2, x2), (1, x1), (0, x0)], r33.2⟩)
theorem X_l07_SealKinds_0_0_lit {E : FnA} {n n0 : Nat} {x15 x4 x13 x3 x2 x1 x0 : AV} {y : Bx} {Q : Ex → S → Prop} (h : Ends (X_l07_SealKinds_0_0 E n n0 x15 x4 x13 x3 x2 x1 x0 y) Q) : Ends (X_l07_SealKinds_0 E n n0 0 ⟨[(15, x15), (4, x4), (13, x13), (3, x3), (2, x2), (1, x1), (0, x0)], y⟩) Q := by
  rw [show X_l07_SealKinds_0 E n n0 0 ⟨[(15, x15), (4, x4), (13, x13), (3, x3), (2, x2), (1, x1), (0, x0)], y⟩ = X_l07_SealKinds_0_0 E n n0 x15 x4 x13 x3 x2 x1 x0 y by kernel_rfl]
  exact h
noncomputable def F_l07_SealKinds (E : FnA) (n n0 : Nat) (a0 : AV) (bx : Bx) : Option (Ex × S) :=
  (boxA bx a0).bind fun r1 =>
  (pv r1.2 (loadA Try.prog 26 r1.2 r1.1)).bind fun r2 =>
  (callA E md0 r2.2 12 [r2.1]).bind fun r3 =>
  (pv r3.2 (loadA Try.prog 26 r3.2 r1.1)).bind fun r4 =>
  (callA E md0 r4.2 13 [r4.1]).bind fun r5 =>
  (pv r5.2 (binA Try.prog .neq 3 r3.1 r5.1)).bind fun r6 =>
  condA r6.1 (some (.ret, ⟨[(2, (.v (Go.Value.bool false))), (13, r6.1), (3, r3.1), (2, (.v (Go.Value.bool false))), (1, r1.1), (0, a0)], r6.2⟩)) (exitA (iter ⟨[(4, (.v (Go.Value.int Go.IntKind.i64 1))), (13, r6.1), (3, r3.1), (2, (.v (Go.Value.bool false))), (1, r1.1), (0, a0)], r6.2⟩ (L_l07_SealKinds_0 E n n0) n ⟨[(4, (.v (Go.Value.int Go.IntKind.i64 1))), (13, r6.1), (3, r3.1), (2, (.v (Go.Value.bool false))), (1, r1.1), (0, a0)], r6.2⟩) (K_l07_SealKinds_0 E n n0) (X_l07_SealKinds_0 E n n0))
theorem c_l07_SealKinds_eq : Try.f6.body = some c_l07_SealKinds := by kernel_rfl
theorem d_l07_SealKinds : drawsOk Try.prog md0 c_l07_SealKinds = true := by kernel_rfl
theorem F_l07_SealKinds_eq (E : FnA) (n n0 : Nat) (a0 : AV) (bx : Bx) : evK Try.prog md0 E 32 kp_l07_SealKinds n n0 c_l07_SealKinds ⟨[(0, a0)], bx⟩ (fun s => some (.normal, s)) (fun i s => some (.exit i, s)) = F_l07_SealKinds E n n0 a0 bx := by kernel_rfl

theorem E_l07_SealKinds (n : Nat) (a0 : AV) (bx : Bx) : evFn cx0 ext0 (n + 1) 6 [a0] bx = fin Try.prog [.tmp 2] (F_l07_SealKinds (evFn cx0 ext0 n) n bx.length a0 bx) := by
  rw [evFn_eq2 (cx := cx0) (c := c_l07_SealKinds) rfl Try.func6 c_l07_SealKinds_eq (of_decide_eq_true (by kernel_rfl)) d_l07_SealKinds (of_decide_eq_true (by kernel_rfl))]
  exact congrArg (fin Try.prog [.tmp 2]) (F_l07_SealKinds_eq (evFn cx0 ext0 n) n bx.length a0 bx)

/-- scupper/scupperlaw07.SealNexts -/
def kp_l07_SealNexts : Option (List Nat) := some [0, 1, 2, 3, 5, 6, 7, 8, 9, 10, 11, 12]
noncomputable def c_l07_SealNexts : Code := Try.f7.body.getD .skip
noncomputable def F_l07_SealNexts (E : FnA) (_n _n0 : Nat) (a0 a1 a2 a3 : AV) (bx : Bx) : Option (Ex × S) :=
  (boxA bx a1).bind fun r1 =>
  (boxA r1.2 a2).bind fun r2 =>
  (boxA r2.2 a3).bind fun r3 =>
  (pv r3.2 (loadA Try.prog 26 r3.2 r1.1)).bind fun r4 =>
  (pv r4.2 (loadA Try.prog 24 r4.2 r2.1)).bind fun r5 =>
  (callA E md0 r5.2 15 [a0, r4.1, r5.1]).bind fun r6 =>
  (pv r6.2 (tupA r6.1 0)).bind fun r7 =>
  (pv r7.2 (tupA r6.1 1)).bind fun r8 =>
  (allocA Try.prog r8.2 26).bind fun r9 =>
  (stA Try.prog 26 r9.2 r9.1 r7.1).bind fun r10 =>
  (pv r10.2 (loadA Try.prog 26 r10.2 r1.1)).bind fun r11 =>
  (pv r11.2 (loadA Try.prog 24 r11.2 r2.1)).bind fun r12 =>
  (callA E md0 r12.2 16 [a0, r11.1, r12.1]).bind fun r13 =>
  (pv r13.2 (tupA r13.1 0)).bind fun r14 =>
  (pv r14.2 (tupA r13.1 1)).bind fun r15 =>
  (allocA Try.prog r15.2 26).bind fun r16 =>
  (stA Try.prog 26 r16.2 r16.1 r14.1).bind fun r17 =>
  (pv r17.2 (loadA Try.prog 26 r17.2 r9.1)).bind fun r18 =>
  (pv r18.2 (loadA Try.prog 26 r18.2 r16.1)).bind fun r19 =>
  (pv r19.2 (binA Try.prog .eql 26 r18.1 r19.1)).bind fun r20 =>
  (gsel true r20.2 (some (r8.1, r20.2)) r20.1).bind fun r21 =>
  (gsel true r21.2 (some (r15.1, r21.2)) r20.1).bind fun r22 =>
  (gsel true r22.2 (pv r22.2 (binA Try.prog .eql 27 r21.1 r22.1)) r20.1).bind fun r23 =>
  (pv r23.2 (pickA r20.1 r23.1 (.v (Go.Value.bool false)))).bind fun r24 =>
  (gsel true r24.2 (pv r24.2 (loadA Try.prog 26 r24.2 r1.1)) r24.1).bind fun r25 =>
  (gsel true r25.2 (pv r25.2 (loadA Try.prog 26 r25.2 r3.1)) r24.1).bind fun r26 =>
  (gsel true r26.2 (callA E md0 r26.2 17 [r25.1, r26.1]) r24.1).bind fun r27 =>
  (gsel true r27.2 (pv r27.2 (loadA Try.prog 26 r27.2 r1.1)) r24.1).bind fun r28 =>
  (gsel true r28.2 (pv r28.2 (loadA Try.prog 26 r28.2 r3.1)) r24.1).bind fun r29 =>
  (gsel true r29.2 (callA E md0 r29.2 18 [r28.1, r29.1]) r24.1).bind fun r30 =>
  (gsel true r30.2 (pv r30.2 (binA Try.prog .eql 4 r27.1 r30.1)) r24.1).bind fun r31 =>
  (pv r31.2 (pickA r24.1 r31.1 (.v (Go.Value.bool false)))).bind fun r32 =>
  (gsel true r32.2 (pv r32.2 (loadA Try.prog 26 r32.2 r9.1)) r32.1).bind fun r33 =>
  (gsel true r33.2 (pv r33.2 (loadA Try.prog 26 r33.2 r16.1)) r32.1).bind fun r34 =>
  (gsel true r34.2 (callA E md0 r34.2 17 [r33.1, r34.1]) r32.1).bind fun r35 =>
  (pv r35.2 (pickA r32.1 r35.1 (.v (Go.Value.bool false)))).bind fun r36 =>
  (gsel true r36.2 (pv r36.2 (loadA Try.prog 26 r36.2 r3.1)) r36.1).bind fun r37 =>
  (gsel true r37.2 (pv r37.2 (loadA Try.prog 26 r37.2 r3.1)) r36.1).bind fun r38 =>
  (gsel true r38.2 (callA E md0 r38.2 17 [r37.1, r38.1]) r36.1).bind fun r39 =>
  (pv r39.2 (pickA r36.1 r39.1 (.v (Go.Value.bool false)))).bind fun r40 =>
  (gsel true r40.2 (callA E md0 r40.2 14 []) r40.1).bind fun r41 =>
  (pv r41.2 (pickA r40.1 r41.1 (.v (Go.Value.bool false)))).bind fun r42 =>
  some (.ret, ⟨[(8, r42.1), (12, r15.1), (11, r16.1), (10, r8.1), (9, r9.1), (8, (.v (Go.Value.bool false))), (7, r3.1), (6, r2.1), (5, r1.1), (0, a0), (1, a1), (2, a2), (3, a3)], r42.2⟩)
theorem c_l07_SealNexts_eq : Try.f7.body = some c_l07_SealNexts := by kernel_rfl
theorem d_l07_SealNexts : drawsOk Try.prog md0 c_l07_SealNexts = true := by kernel_rfl
theorem F_l07_SealNexts_eq (E : FnA) (n n0 : Nat) (a0 a1 a2 a3 : AV) (bx : Bx) : evK Try.prog md0 E 57 kp_l07_SealNexts n n0 c_l07_SealNexts ⟨[(0, a0), (1, a1), (2, a2), (3, a3)], bx⟩ (fun s => some (.normal, s)) (fun i s => some (.exit i, s)) = F_l07_SealNexts E n n0 a0 a1 a2 a3 bx := by kernel_rfl

theorem E_l07_SealNexts (n : Nat) (a0 a1 a2 a3 : AV) (bx : Bx) : evFn cx0 ext0 (n + 1) 7 [a0, a1, a2, a3] bx = fin Try.prog [.tmp 8] (F_l07_SealNexts (evFn cx0 ext0 n) n bx.length a0 a1 a2 a3 bx) := by
  rw [evFn_eq2 (cx := cx0) (c := c_l07_SealNexts) rfl Try.func7 c_l07_SealNexts_eq (of_decide_eq_true (by kernel_rfl)) d_l07_SealNexts (of_decide_eq_true (by kernel_rfl))]
  exact congrArg (fin Try.prog [.tmp 8]) (F_l07_SealNexts_eq (evFn cx0 ext0 n) n bx.length a0 a1 a2 a3 bx)

/-- scupper/seal.Put -/
def kp_seal_Put : Option (List Nat) := some [0, 1, 2, 5, 6, 7, 8, 9, 10, 13]
noncomputable def c_seal_Put : Code := Try.f8.body.getD .skip
noncomputable def F_seal_Put (E : FnA) (_n _n0 : Nat) (a0 a1 a2 : AV) (bx : Bx) : Option (Ex × S) :=
  (boxA bx a2).bind fun r1 =>
  (allocA Try.prog r1.2 26).bind fun r2 =>
  (allocA Try.prog r2.2 26).bind fun r3 =>
  (callA E md0 r3.2 19 [a0]).bind fun r4 =>
  (pv r4.2 (unA .not r4.1)).bind fun r5 =>
  condA r5.1 ((pv r5.2 (loadA Try.prog 26 r5.2 r3.1)).bind fun r6 =>
  (stA Try.prog 26 r6.2 r2.1 r6.1).bind fun r7 =>
  some (.ret, ⟨[(7, (.v (Go.Value.int Go.IntKind.i64 2))), (13, r5.1), (8, r3.1), (7, (.v (Go.Value.int Go.IntKind.i64 0))), (6, r2.1), (5, r1.1), (0, a0), (1, a1), (2, a2)], r7.2⟩)) ((pv r5.2 (sliceA Try.prog r5.2 26 r3.1 none none none)).bind fun r8 =>
  (pv r8.2 (sliceA Try.prog r8.2 24 r1.1 none none none)).bind fun r9 =>
  (copyA Try.prog r9.2 42 r8.1 r9.1).bind fun r10 =>
  (convA Try.prog r10.2 3 5 a0).bind fun r11 =>
  (pv r11.2 (binA Try.prog .sub 3 (.v (Go.Value.int Go.IntKind.i64 255)) a0)).bind fun r12 =>
  (convA Try.prog r12.2 3 5 r12.1).bind fun r13 =>
  (pv r13.2 (indexAddrA Try.prog 26 r3.1 (.v (Go.Value.int Go.IntKind.i64 54)))).bind fun r14 =>
  (stA Try.prog 5 r14.2 r14.1 r11.1).bind fun r15 =>
  (pv r15.2 (indexAddrA Try.prog 26 r3.1 (.v (Go.Value.int Go.IntKind.i64 55)))).bind fun r16 =>
  (stA Try.prog 5 r16.2 r16.1 r13.1).bind fun r17 =>
  (callA E md0 r17.2 20 [a1]).bind fun r18 =>
  (allocA Try.prog r18.2 43).bind fun r19 =>
  (stA Try.prog 43 r19.2 r19.1 r18.1).bind fun r20 =>
  (pv r20.2 (sliceA Try.prog r20.2 26 r3.1 (some (.v (Go.Value.int Go.IntKind.i64 56))) none none)).bind fun r21 =>
  (pv r21.2 (sliceA Try.prog r21.2 43 r19.1 none none none)).bind fun r22 =>
  (copyA Try.prog r22.2 42 r21.1 r22.1).bind fun r23 =>
  (pv r23.2 (sliceA Try.prog r23.2 26 r3.1 none (some (.v (Go.Value.int Go.IntKind.i64 60))) none)).bind fun r24 =>
  (buildSliceA Try.prog r24.2 51 1 [(0, r24.1)]).bind fun r25 =>
  (callA E md0 r25.2 21 [r25.1]).bind fun r26 =>
  (callA E md0 r26.2 20 [r26.1]).bind fun r27 =>
  (allocA Try.prog r27.2 43).bind fun r28 =>
  (stA Try.prog 43 r28.2 r28.1 r27.1).bind fun r29 =>
  (pv r29.2 (sliceA Try.prog r29.2 26 r3.1 (some (.v (Go.Value.int Go.IntKind.i64 60))) none none)).bind fun r30 =>
  (pv r30.2 (sliceA Try.prog r30.2 43 r28.1 none none none)).bind fun r31 =>
  (copyA Try.prog r31.2 42 r30.1 r31.1).bind fun r32 =>
  (pv r32.2 (loadA Try.prog 26 r32.2 r3.1)).bind fun r33 =>
  (stA Try.prog 26 r33.2 r2.1 r33.1).bind fun r34 =>
  some (.ret, ⟨[(7, (.v (Go.Value.int Go.IntKind.i64 0))), (10, r28.1), (9, r19.1), (13, r5.1), (8, r3.1), (7, (.v (Go.Value.int Go.IntKind.i64 0))), (6, r2.1), (5, r1.1), (0, a0), (1, a1), (2, a2)], r34.2⟩))
theorem c_seal_Put_eq : Try.f8.body = some c_seal_Put := by kernel_rfl
theorem d_seal_Put : drawsOk Try.prog md0 c_seal_Put = true := by kernel_rfl
theorem F_seal_Put_eq (E : FnA) (n n0 : Nat) (a0 a1 a2 : AV) (bx : Bx) : evK Try.prog md0 E 38 kp_seal_Put n n0 c_seal_Put ⟨[(0, a0), (1, a1), (2, a2)], bx⟩ (fun s => some (.normal, s)) (fun i s => some (.exit i, s)) = F_seal_Put E n n0 a0 a1 a2 bx := by kernel_rfl

theorem E_seal_Put (n : Nat) (a0 a1 a2 : AV) (bx : Bx) : evFn cx0 ext0 (n + 1) 8 [a0, a1, a2] bx = fin Try.prog [.cell 6 26, .tmp 7] (F_seal_Put (evFn cx0 ext0 n) n bx.length a0 a1 a2 bx) := by
  rw [evFn_eq2 (cx := cx0) (c := c_seal_Put) rfl Try.func8 c_seal_Put_eq (of_decide_eq_true (by kernel_rfl)) d_seal_Put (of_decide_eq_true (by kernel_rfl))]
  exact congrArg (fin Try.prog [.cell 6 26, .tmp 7]) (F_seal_Put_eq (evFn cx0 ext0 n) n bx.length a0 a1 a2 bx)

/-- scupper/scupperref07.Put -/
def kp_r07_Put : Option (List Nat) := some [0, 1, 2, 5, 6, 7, 8, 11]
noncomputable def c_r07_Put : Code := Try.f9.body.getD .skip
noncomputable def F_r07_Put (E : FnA) (_n n0 : Nat) (a0 a1 a2 : AV) (bx : Bx) : Option (Ex × S) :=
  (boxA bx a2).bind fun r1 =>
  (allocA Try.prog r1.2 26).bind fun r2 =>
  (callA E md0 r2.2 22 [a0]).bind fun r3 =>
  (pv r3.2 (unA .not r3.1)).bind fun r4 =>
  condA r4.1 ((pv r4.2 (buildA Try.prog 26 [])).bind fun r5 =>
  (stA Try.prog 26 r5.2 r2.1 r5.1).bind fun r6 =>
  some (.ret, ⟨[(7, (.v (Go.Value.int Go.IntKind.i64 2))), (11, r4.1), (7, (.v (Go.Value.int Go.IntKind.i64 0))), (6, r2.1), (5, r1.1), (0, a0), (1, a1), (2, a2)], r6.2⟩)) ((buildSliceA Try.prog r4.2 42 0 []).bind fun r7 =>
  (pv r7.2 (sliceA Try.prog r7.2 24 r1.1 none none none)).bind fun r8 =>
  (appA Try.prog n0 r8.2 42 r7.1 r8.1).bind fun r9 =>
  (convA Try.prog r9.2.2 3 5 (r9.2.1 a0)).bind fun r10 =>
  (pv r10.2 (binA Try.prog .sub 3 (.v (Go.Value.int Go.IntKind.i64 255)) (r9.2.1 a0))).bind fun r11 =>
  (convA Try.prog r11.2 3 5 r11.1).bind fun r12 =>
  (buildSliceA Try.prog r12.2 42 2 [(0, r10.1), (1, r12.1)]).bind fun r13 =>
  (appA Try.prog n0 r13.2 42 r9.1 r13.1).bind fun r14 =>
  (callA E md0 r14.2.2 23 [(r14.2.1 (r9.2.1 a1))]).bind fun r15 =>
  (appA Try.prog n0 r15.2 42 r14.1 r15.1).bind fun r16 =>
  (callA E md0 r16.2.2 24 [r16.1]).bind fun r17 =>
  (callA E md0 r17.2 23 [r17.1]).bind fun r18 =>
  (appA Try.prog n0 r18.2 42 r16.1 r18.1).bind fun r19 =>
  (pv r19.2.2 (arrPtrA Try.prog 26 r19.1)).bind fun r20 =>
  (pv r20.2 (loadA Try.prog 26 r20.2 r20.1)).bind fun r21 =>
  (stA Try.prog 26 r21.2 (r19.2.1 (r16.2.1 (r14.2.1 (r9.2.1 r2.1)))) r21.1).bind fun r22 =>
  some (.ret, ⟨[(7, (.v (Go.Value.int Go.IntKind.i64 0))), (8, r19.1), (8, (r19.2.1 r16.1)), (8, (r19.2.1 (r16.2.1 r14.1))), (11, (r19.2.1 (r16.2.1 (r14.2.1 (r9.2.1 r4.1))))), (7, (r19.2.1 (r16.2.1 (r14.2.1 (r9.2.1 (.v (Go.Value.int Go.IntKind.i64 0))))))), (6, (r19.2.1 (r16.2.1 (r14.2.1 (r9.2.1 r2.1))))), (5, (r19.2.1 (r16.2.1 (r14.2.1 (r9.2.1 r1.1))))), (0, (r19.2.1 (r16.2.1 (r14.2.1 (r9.2.1 a0))))), (1, (r19.2.1 (r16.2.1 (r14.2.1 (r9.2.1 a1))))), (2, (r19.2.1 (r16.2.1 (r14.2.1 (r9.2.1 a2)))))], r22.2⟩))
theorem c_r07_Put_eq : Try.f9.body = some c_r07_Put := by kernel_rfl
theorem d_r07_Put : drawsOk Try.prog md0 c_r07_Put = true := by kernel_rfl
theorem F_r07_Put_eq (E : FnA) (n n0 : Nat) (a0 a1 a2 : AV) (bx : Bx) : evK Try.prog md0 E 35 kp_r07_Put n n0 c_r07_Put ⟨[(0, a0), (1, a1), (2, a2)], bx⟩ (fun s => some (.normal, s)) (fun i s => some (.exit i, s)) = F_r07_Put E n n0 a0 a1 a2 bx := by kernel_rfl

theorem E_r07_Put (n : Nat) (a0 a1 a2 : AV) (bx : Bx) : evFn cx0 ext0 (n + 1) 9 [a0, a1, a2] bx = fin Try.prog [.cell 6 26, .tmp 7] (F_r07_Put (evFn cx0 ext0 n) n bx.length a0 a1 a2 bx) := by
  rw [evFn_eq2 (cx := cx0) (c := c_r07_Put) rfl Try.func9 c_r07_Put_eq (of_decide_eq_true (by kernel_rfl)) d_r07_Put (of_decide_eq_true (by kernel_rfl))]
  exact congrArg (fin Try.prog [.cell 6 26, .tmp 7]) (F_r07_Put_eq (evFn cx0 ext0 n) n bx.length a0 a1 a2 bx)

/-- scupper/seal.Get -/
def kp_seal_Get : Option (List Nat) := some [0, 1, 3, 4, 5, 6, 7, 12]
noncomputable def c_seal_Get : Code := Try.f10.body.getD .skip
noncomputable def F_seal_Get (E : FnA) (_n _n0 : Nat) (a0 a1 : AV) (bx : Bx) : Option (Ex × S) :=
  (boxA bx a1).bind fun r1 =>
  (allocA Try.prog r1.2 24).bind fun r2 =>
  (callA E md0 r2.2 19 [a0]).bind fun r3 =>
  (pv r3.2 (unA .not r3.1)).bind fun r4 =>
  condA r4.1 ((pv r4.2 (buildA Try.prog 24 [])).bind fun r5 =>
  (stA Try.prog 24 r5.2 r2.1 r5.1).bind fun r6 =>
  some (.ret, ⟨[(6, (.v (Go.Value.int Go.IntKind.i64 2))), (5, (.v (Go.Value.int Go.IntKind.u32 0))), (7, r4.1), (6, (.v (Go.Value.int Go.IntKind.i64 0))), (5, (.v (Go.Value.int Go.IntKind.u32 0))), (4, r2.1), (3, r1.1), (0, a0), (1, a1)], r6.2⟩)) ((pv r4.2 (indexAddrA Try.prog 26 r1.1 (.v (Go.Value.int Go.IntKind.i64 54)))).bind fun r7 =>
  (pv r7.2 (loadA Try.prog 5 r7.2 r7.1)).bind fun r8 =>
  (convA Try.prog r8.2 5 3 r8.1).bind fun r9 =>
  (pv r9.2 (binA Try.prog .neq 3 r9.1 a0)).bind fun r10 =>
  (gsel false r10.2 (pv r10.2 (loadA Try.prog 26 r10.2 r1.1)) r10.1).bind fun r11 =>
  (gsel false r11.2 (callA E md0 r11.2 25 [r11.1]) r10.1).bind fun r12 =>
  (gsel false r12.2 (pv r12.2 (unA .not r12.1)) r10.1).bind fun r13 =>
  (pv r13.2 (pickA r10.1 (.v (Go.Value.bool true)) r13.1)).bind fun r14 =>
  condA r14.1 ((pv r14.2 (buildA Try.prog 24 [])).bind fun r15 =>
  (stA Try.prog 24 r15.2 r2.1 r15.1).bind fun r16 =>
  some (.ret, ⟨[(6, (.v (Go.Value.int Go.IntKind.i64 21))), (5, (.v (Go.Value.int Go.IntKind.u32 0))), (12, r14.1), (7, r4.1), (6, (.v (Go.Value.int Go.IntKind.i64 0))), (5, (.v (Go.Value.int Go.IntKind.u32 0))), (4, r2.1), (3, r1.1), (0, a0), (1, a1)], r16.2⟩)) ((pv r14.2 (sliceA Try.prog r14.2 26 r1.1 none (some (.v (Go.Value.int Go.IntKind.i64 54))) none)).bind fun r17 =>
  (pv r17.2 (arrPtrA Try.prog 24 r17.1)).bind fun r18 =>
  (pv r18.2 (loadA Try.prog 24 r18.2 r18.1)).bind fun r19 =>
  (pv r19.2 (loadA Try.prog 26 r19.2 r1.1)).bind fun r20 =>
  (callA E md0 r20.2 26 [r20.1]).bind fun r21 =>
  (stA Try.prog 24 r21.2 r2.1 r19.1).bind fun r22 =>
  some (.ret, ⟨[(6, (.v (Go.Value.int Go.IntKind.i64 0))), (5, r21.1), (12, r14.1), (7, r4.1), (6, (.v (Go.Value.int Go.IntKind.i64 0))), (5, (.v (Go.Value.int Go.IntKind.u32 0))), (4, r2.1), (3, r1.1), (0, a0), (1, a1)], r22.2⟩)))
theorem c_seal_Get_eq : Try.f10.body = some c_seal_Get := by kernel_rfl
theorem d_seal_Get : drawsOk Try.prog md0 c_seal_Get = true := by kernel_rfl
theorem F_seal_Get_eq (E : FnA) (n n0 : Nat) (a0 a1 : AV) (bx : Bx) : evK Try.prog md0 E 29 kp_seal_Get n n0 c_seal_Get ⟨[(0, a0), (1, a1)], bx⟩ (fun s => some (.normal, s)) (fun i s => some (.exit i, s)) = F_seal_Get E n n0 a0 a1 bx := by kernel_rfl

theorem E_seal_Get (n : Nat) (a0 a1 : AV) (bx : Bx) : evFn cx0 ext0 (n + 1) 10 [a0, a1] bx = fin Try.prog [.cell 4 24, .tmp 5, .tmp 6] (F_seal_Get (evFn cx0 ext0 n) n bx.length a0 a1 bx) := by
  rw [evFn_eq2 (cx := cx0) (c := c_seal_Get) rfl Try.func10 c_seal_Get_eq (of_decide_eq_true (by kernel_rfl)) d_seal_Get (of_decide_eq_true (by kernel_rfl))]
  exact congrArg (fin Try.prog [.cell 4 24, .tmp 5, .tmp 6]) (F_seal_Get_eq (evFn cx0 ext0 n) n bx.length a0 a1 bx)

/-- scupper/scupperref07.Get -/
def kp_r07_Get : Option (List Nat) := some [0, 1, 3, 4, 5, 6, 7, 9, 11, 12, 15, 45, 49]
noncomputable def c_r07_Get : Code := Try.f11.body.getD .skip
noncomputable def L_r07_Get_0 (_E : FnA) (_n _n0 : Nat) (s : S) : Option (Ex × S) :=
  (pv s.bx (binA Try.prog .lss 3 (get s.env 12) (.v (Go.Value.int Go.IntKind.i64 54)))).bind fun r42 =>
  condA r42.1 ((pv r42.2 (indexAddrA Try.prog 26 (get (prune kp_r07_Get s.env) 3) (get (prune kp_r07_Get s.env) 12))).bind fun r43 =>
  (pv r43.2 (loadA Try.prog 5 r43.2 r43.1)).bind fun r44 =>
  (pv r44.2 (indexAddrA Try.prog 24 (get (prune kp_r07_Get s.env) 11) (get (prune kp_r07_Get s.env) 12))).bind fun r45 =>
  (stA Try.prog 5 r45.2 r45.1 r44.1).bind fun r46 =>
  (pv r46.2 (binA Try.prog .add 3 (get (prune kp_r07_Get (prune kp_r07_Get s.env)) 12) (.v (Go.Value.int Go.IntKind.i64 1)))).bind fun r47 =>
  some (.normal, ⟨((12, r47.1) :: (49, r42.1) :: (prune kp_r07_Get (prune kp_r07_Get (prune kp_r07_Get s.env)))), r47.2⟩)) (some (.exit 0, ⟨((49, r42.1) :: (prune kp_r07_Get s.env)), r42.2⟩))
noncomputable def B_r07_Get_0 (_E : FnA) (_n _n0 : Nat) (x12 x11 x45 x9 x7 x15 x6 x5 x4 x3 x0 x1 : AV) (y : Bx) : Option (Ex × S) :=
  (pv y (binA Try.prog .lss 3 x12 (.v (Go.Value.int Go.IntKind.i64 54)))).bind fun r36 =>
  condA r36.1 ((pv r36.2 (indexAddrA Try.prog 26 x3 x12)).bind fun r37 =>
  (pv r37.2 (loadA Try.prog 5 r37.2 r37.1)).bind fun r38 =>
  (pv r38.2 (indexAddrA Try.prog 24 x11 x12)).bind fun r39 =>
  (stA Try.prog 5 r39.2 r39.1 r38.1).bind fun r40 =>
  (pv r40.2 (binA Try.prog .add 3 x12 (.v (Go.Value.int Go.IntKind.i64 1)))).bind fun r41 =>
  some (.normal, ⟨[(12, r41.1), (49, r36.1), (12, x12), (11, x11), (45, x45), (9, x9), (7, x7), (15, x15), (6, x6), (5, x5), (4, x4), (3, x3), (0, x0), (1, x1)], r41.2⟩)) (some (.exit 0, ⟨[(49, r36.1), (12, x12), (11, x11), (45, x45), (9, x9), (7, x7), (15, x15), (6, x6), (5, x5), (4, x4), (3, x3), (0, x0), (1, x1)], r36.2⟩))
theorem L_r07_Get_0_lit {E : FnA} {n n0 : Nat} {x12 x11 x45 x9 x7 x15 x6 x5 x4 x3 x0 x1 : AV} {y : Bx} {Q : Ex → S → Prop} (h : Ends (B_r07_Get_0 E n n0 x12 x11 x45 x9 x7 x15 x6 x5 x4 x3 x0 x1 y) Q) : Ends (L_r07_Get_0 E n n0 ⟨[(12, x12), (11, x11), (45, x45), (9, x9), (7, x7), (15, x15), (6, x6), (5, x5), (4, x4), (3, x3), (0, x0), (1, x1)], y⟩) Q := by
  rw [show L_r07_Get_0 E n n0 ⟨[(12, x12), (11, x11), (45, x45), (9, x9), (7, x7), (15, x15), (6, x6), (5, x5), (4, x4), (3, x3), (0, x0), (1, x1)], y⟩ = B_r07_Get_0 E n n0 x12 x11 x45 x9 x7 x15 x6 x5 x4 x3 x0 x1 y by kernel_rfl]
  exact h
noncomputable def K_r07_Get_0 (_E : FnA) (_n _n0 : Nat) (t : S) : Option (Ex × S) :=
  (pv t.bx (loadA Try.prog 24 t.bx (get t.env 11))).bind fun r50 =>
  (stA Try.prog 24 r50.2 (get t.env 4) r50.1).bind fun r51 =>
  some (.ret, ⟨((6, (.v (Go.Value.int Go.IntKind.i64 0))) :: (5, (get t.env 7)) :: (prune kp_r07_Get t.env)), r51.2⟩)
noncomputable def X_r07_Get_0 (_E : FnA) (_n _n0 : Nat) (i : Nat) (t : S) : Option (Ex × S) :=
  if i = 0 then (pv t.bx (loadA Try.prog 24 t.bx (get t.env 11))).bind fun r48 =>
  (stA Try.prog 24 r48.2 (get t.env 4) r48.1).bind fun r49 =>
  some (.ret, ⟨((6, (.v (Go.Value.int Go.IntKind.i64 0))) :: (5, (get t.env 7)) :: (prune kp_r07_Get t.env)), r49.2⟩) else some (.exit i, ⟨t.env, t.bx⟩)
noncomputable def X_r07_Get_0_0 (_E : FnA) (_n _n0 : Nat) (x49 x12 x11 x45 x9 x7 x15 x6 x5 x4 x3 x0 x1 : AV) (y : Bx) : Option (Ex × S) :=
  (pv y (loadA Try.prog 24 y x11)).bind fun r52 =>
  (stA Try.prog 24 r52.2 x4 r52.1).bind fun r53 =>
  some (.ret, ⟨[(6, (.v (Go.Value.int Go.IntKind.i64 0))), (5, x7), (49, x49), (12, x12), (11, x11), (45, x45), (9, x9), (7, x7), (15, x15), (6, x6), (5, x5), (4, x4), (3, x3), (0, x0), (1, x1)], r53.2⟩)
theorem X_r07_Get_0_0_lit {E : FnA} {n n0 : Nat} {x49 x12 x11 x45 x9 x7 x15 x6 x5 x4 x3 x0 x1 : AV} {y : Bx} {Q : Ex → S → Prop} (h : Ends (X_r07_Get_0_0 E n n0 x49 x12 x11 x45 x9 x7 x15 x6 x5 x4 x3 x0 x1 y) Q) : Ends (X_r07_Get_0 E n n0 0 ⟨[(49, x49), (12, x12), (11, x11), (45, x45), (9, x9), (7, x7), (15, x15), (6, x6), (5, x5), (4, x4), (3, x3), (0, x0), (1, x1)], y⟩) Q := by
  rw [show X_r07_Get_0 E n n0 0 ⟨[(49, x49), (12, x12), (11, x11), (45, x45), (9, x9), (7, x7), (15, x15), (6, x6), (5, x5), (4, x4), (3, x3), (0, x0), (1, x1)], y⟩ = X_r07_Get_0_0 E n n0 x49 x12 x11 x45 x9 x7 x15 x6 x5 x4 x3 x0 x1 y by kernel_rfl]
  exact h
noncomputable def F_r07_Get (E : FnA) (n n0 : Nat) (a0 a1 : AV) (bx : Bx) : Option (Ex × S) :=
  (boxA bx a1).bind fun r1 =>
  (allocA Try.prog r1.2 24).bind fun r2 =>
  (callA E md0 r2.2 22 [a0]).bind fun r3 =>
  (pv r3.2 (unA .not r3.1)).bind fun r4 =>
  condA r4.1 ((pv r4.2 (buildA Try.prog 24 [])).bind fun r5 =>
  (stA Try.prog 24 r5.2 r2.1 r5.1).bind fun r6 =>
  some (.ret, ⟨[(6, (.v (Go.Value.int Go.IntKind.i64 2))), (5, (.v (Go.Value.int Go.IntKind.u32 0))), (15, r4.1), (6, (.v (Go.Value.int Go.IntKind.i64 0))), (5, (.v (Go.Value.int Go.IntKind.u32 0))), (4, r2.1), (3, r1.1), (0, a0), (1, a1)], r6.2⟩)) ((pv r4.2 (sliceA Try.prog r4.2 26 r1.1 none none none)).bind fun r7 =>
  (callA E md0 r7.2 27 [r7.1, (.v (Go.Value.int Go.IntKind.i64 56))]).bind fun r8 =>
  (pv r8.2 (tupA r8.1 0)).bind fun r9 =>
  (pv r9.2 (tupA r8.1 1)).bind fun r10 =>
  (pv r10.2 (sliceA Try.prog r10.2 26 r1.1 none none none)).bind fun r11 =>
  (callA E md0 r11.2 27 [r11.1, (.v (Go.Value.int Go.IntKind.i64 60))]).bind fun r12 =>
  (pv r12.2 (tupA r12.1 0)).bind fun r13 =>
  (pv r13.2 (tupA r12.1 1)).bind fun r14 =>
  (pv r14.2 (indexAddrA Try.prog 26 r1.1 (.v (Go.Value.int Go.IntKind.i64 54)))).bind fun r15 =>
  (pv r15.2 (loadA Try.prog 5 r15.2 r15.1)).bind fun r16 =>
  (convA Try.prog r16.2 5 3 r16.1).bind fun r17 =>
  (pv r17.2 (binA Try.prog .neq 3 r17.1 a0)).bind fun r18 =>
  (gsel false r18.2 (pv r18.2 (indexAddrA Try.prog 26 r1.1 (.v (Go.Value.int Go.IntKind.i64 55)))) r18.1).bind fun r19 =>
  (gsel false r19.2 (pv r19.2 (loadA Try.prog 5 r19.2 r19.1)) r18.1).bind fun r20 =>
  (gsel false r20.2 (convA Try.prog r20.2 5 3 r20.1) r18.1).bind fun r21 =>
  (gsel false r21.2 (some (a0, r21.2)) r18.1).bind fun r22 =>
  (gsel false r22.2 (pv r22.2 (binA Try.prog .sub 3 (.v (Go.Value.int Go.IntKind.i64 255)) r22.1)) r18.1).bind fun r23 =>
  (gsel false r23.2 (pv r23.2 (binA Try.prog .neq 3 r21.1 r23.1)) r18.1).bind fun r24 =>
  (pv r24.2 (pickA r18.1 (.v (Go.Value.bool true)) r24.1)).bind fun r25 =>
  (gsel false r25.2 (some (r13.1, r25.2)) r25.1).bind fun r26 =>
  (gsel false r26.2 (pv r26.2 (sliceA Try.prog r26.2 26 r1.1 none (some (.v (Go.Value.int Go.IntKind.i64 60))) none)) r25.1).bind fun r27 =>
  (gsel false r27.2 (callA E md0 r27.2 24 [r27.1]) r25.1).bind fun r28 =>
  (gsel false r28.2 (pv r28.2 (binA Try.prog .neq 22 r26.1 r28.1)) r25.1).bind fun r29 =>
  (pv r29.2 (pickA r25.1 (.v (Go.Value.bool true)) r29.1)).bind fun r30 =>
  condA r30.1 ((pv r30.2 (buildA Try.prog 24 [])).bind fun r31 =>
  (stA Try.prog 24 r31.2 r2.1 r31.1).bind fun r32 =>
  some (.ret, ⟨[(6, (.v (Go.Value.int Go.IntKind.i64 21))), (5, (.v (Go.Value.int Go.IntKind.u32 0))), (45, r30.1), (9, r13.1), (7, r9.1), (15, r4.1), (6, (.v (Go.Value.int Go.IntKind.i64 0))), (5, (.v (Go.Value.int Go.IntKind.u32 0))), (4, r2.1), (3, r1.1), (0, a0), (1, a1)], r32.2⟩)) ((pv r30.2 (buildA Try.prog 24 [])).bind fun r33 =>
  (allocA Try.prog r33.2 24).bind fun r34 =>
  (stA Try.prog 24 r34.2 r34.1 r33.1).bind fun r35 =>
  exitA (iter ⟨[(12, (.v (Go.Value.int Go.IntKind.i64 0))), (11, r34.1), (45, r30.1), (9, r13.1), (7, r9.1), (15, r4.1), (6, (.v (Go.Value.int Go.IntKind.i64 0))), (5, (.v (Go.Value.int Go.IntKind.u32 0))), (4, r2.1), (3, r1.1), (0, a0), (1, a1)], r35.2⟩ (L_r07_Get_0 E n n0) n ⟨[(12, (.v (Go.Value.int Go.IntKind.i64 0))), (11, r34.1), (45, r30.1), (9, r13.1), (7, r9.1), (15, r4.1), (6, (.v (Go.Value.int Go.IntKind.i64 0))), (5, (.v (Go.Value.int Go.IntKind.u32 0))), (4, r2.1), (3, r1.1), (0, a0), (1, a1)], r35.2⟩) (K_r07_Get_0 E n n0) (X_r07_Get_0 E n n0)))
theorem c_r07_Get_eq : Try.f11.body = some c_r07_Get := by kernel_rfl
theorem d_r07_Get : drawsOk Try.prog md0 c_r07_Get = true := by kernel_rfl
theorem F_r07_Get_eq (E : FnA) (n n0 : Nat) (a0 a1 : AV) (bx : Bx) : evK Try.prog md0 E 59 kp_r07_Get n n0 c_r07_Get ⟨[(0, a0), (1, a1)], bx⟩ (fun s => some (.normal, s)) (fun i s => some (.exit i, s)) = F_r07_Get E n n0 a0 a1 bx := by kernel_rfl

theorem E_r07_Get (n : Nat) (a0 a1 : AV) (bx : Bx) : evFn cx0 ext0 (n + 1) 11 [a0, a1] bx = fin Try.prog [.cell 4 24, .tmp 5, .tmp 6] (F_r07_Get (evFn cx0 ext0 n) n bx.length a0 a1 bx) := by
  rw [evFn_eq2 (cx := cx0) (c := c_r07_Get) rfl Try.func11 c_r07_Get_eq (of_decide_eq_true (by kernel_rfl)) d_r07_Get (of_decide_eq_true (by kernel_rfl))]
  exact congrArg (fin Try.prog [.cell 4 24, .tmp 5, .tmp 6]) (F_r07_Get_eq (evFn cx0 ext0 n) n bx.length a0 a1 bx)

/-- scupper/seal.Kind -/
def kp_seal_Kind : Option (List Nat) := some [0, 1, 2, 5]
noncomputable def c_seal_Kind : Code := Try.f12.body.getD .skip
noncomputable def F_seal_Kind (E : FnA) (_n _n0 : Nat) (a0 : AV) (bx : Bx) : Option (Ex × S) :=
  (boxA bx a0).bind fun r1 =>
  (pv r1.2 (loadA Try.prog 26 r1.2 r1.1)).bind fun r2 =>
  (callA E md0 r2.2 25 [r2.1]).bind fun r3 =>
  (pv r3.2 (unA .not r3.1)).bind fun r4 =>
  condA r4.1 (some (.ret, ⟨[(2, (.v (Go.Value.int Go.IntKind.i64 0))), (5, r4.1), (2, (.v (Go.Value.int Go.IntKind.i64 0))), (1, r1.1), (0, a0)], r4.2⟩)) ((pv r4.2 (indexAddrA Try.prog 26 r1.1 (.v (Go.Value.int Go.IntKind.i64 54)))).bind fun r5 =>
  (pv r5.2 (loadA Try.prog 5 r5.2 r5.1)).bind fun r6 =>
  (convA Try.prog r6.2 5 3 r6.1).bind fun r7 =>
  some (.ret, ⟨[(2, r7.1), (5, r4.1), (2, (.v (Go.Value.int Go.IntKind.i64 0))), (1, r1.1), (0, a0)], r7.2⟩))
theorem c_seal_Kind_eq : Try.f12.body = some c_seal_Kind := by kernel_rfl
theorem d_seal_Kind : drawsOk Try.prog md0 c_seal_Kind = true := by kernel_rfl
theorem F_seal_Kind_eq (E : FnA) (n n0 : Nat) (a0 : AV) (bx : Bx) : evK Try.prog md0 E 9 kp_seal_Kind n n0 c_seal_Kind ⟨[(0, a0)], bx⟩ (fun s => some (.normal, s)) (fun i s => some (.exit i, s)) = F_seal_Kind E n n0 a0 bx := by kernel_rfl

theorem E_seal_Kind (n : Nat) (a0 : AV) (bx : Bx) : evFn cx0 ext0 (n + 1) 12 [a0] bx = fin Try.prog [.tmp 2] (F_seal_Kind (evFn cx0 ext0 n) n bx.length a0 bx) := by
  rw [evFn_eq2 (cx := cx0) (c := c_seal_Kind) rfl Try.func12 c_seal_Kind_eq (of_decide_eq_true (by kernel_rfl)) d_seal_Kind (of_decide_eq_true (by kernel_rfl))]
  exact congrArg (fin Try.prog [.tmp 2]) (F_seal_Kind_eq (evFn cx0 ext0 n) n bx.length a0 bx)

/-- scupper/scupperref07.Kind -/
def kp_r07_Kind : Option (List Nat) := some [0, 1, 2, 3, 6, 8, 19]
noncomputable def c_r07_Kind : Code := Try.f13.body.getD .skip
noncomputable def L_r07_Kind_0 (E : FnA) (_n _n0 : Nat) (s : S) : Option (Ex × S) :=
  (pv s.bx (binA Try.prog .lss 3 (get s.env 3) (.v (Go.Value.int Go.IntKind.i64 7)))).bind fun r12 =>
  condA r12.1 ((pv r12.2 (loadA Try.prog 26 r12.2 (get (prune kp_r07_Kind s.env) 1))).bind fun r13 =>
  (callA E md0 r13.2 11 [(get (prune kp_r07_Kind s.env) 3), r13.1]).bind fun r14 =>
  (pv r14.2 (tupA r14.1 0)).bind fun r15 =>
  (pv r15.2 (tupA r14.1 1)).bind fun r16 =>
  (pv r16.2 (tupA r14.1 2)).bind fun r17 =>
  (allocA Try.prog r17.2 24).bind fun r18 =>
  (stA Try.prog 24 r18.2 r18.1 r15.1).bind fun r19 =>
  (pv r19.2 (binA Try.prog .eql 27 r17.1 (.v (Go.Value.int Go.IntKind.i64 0)))).bind fun r20 =>
  condA r20.1 (some (.ret, ⟨((2, (get (prune kp_r07_Kind (prune kp_r07_Kind (prune kp_r07_Kind s.env))) 3)) :: (19, r20.1) :: (6, r17.1) :: (8, r12.1) :: (prune kp_r07_Kind (prune kp_r07_Kind (prune kp_r07_Kind (prune kp_r07_Kind s.env))))), r20.2⟩)) ((pv r20.2 (binA Try.prog .add 3 (get (prune kp_r07_Kind (prune kp_r07_Kind (prune kp_r07_Kind s.env))) 3) (.v (Go.Value.int Go.IntKind.i64 1)))).bind fun r21 =>
  some (.normal, ⟨((3, r21.1) :: (19, r20.1) :: (6, r17.1) :: (8, r12.1) :: (prune kp_r07_Kind (prune kp_r07_Kind (prune kp_r07_Kind (prune kp_r07_Kind s.env))))), r21.2⟩))) (some (.exit 0, ⟨((8, r12.1) :: (prune kp_r07_Kind s.env)), r12.2⟩))
noncomputable def B_r07_Kind_0 (E : FnA) (_n _n0 : Nat) (x3 x2 x1 x0 : AV) (y : Bx) : Option (Ex × S) :=
  (pv y (binA Try.prog .lss 3 x3 (.v (Go.Value.int Go.IntKind.i64 7)))).bind fun r2 =>
  condA r2.1 ((pv r2.2 (loadA Try.prog 26 r2.2 x1)).bind fun r3 =>
  (callA E md0 r3.2 11 [x3, r3.1]).bind fun r4 =>
  (pv r4.2 (tupA r4.1 0)).bind fun r5 =>
  (pv r5.2 (tupA r4.1 1)).bind fun r6 =>
  (pv r6.2 (tupA r4.1 2)).bind fun r7 =>
  (allocA Try.prog r7.2 24).bind fun r8 =>
  (stA Try.prog 24 r8.2 r8.1 r5.1).bind fun r9 =>
  (pv r9.2 (binA Try.prog .eql 27 r7.1 (.v (Go.Value.int Go.IntKind.i64 0)))).bind fun r10 =>
  condA r10.1 (some (.ret, ⟨[(2, x3), (19, r10.1), (6, r7.1), (8, r2.1), (3, x3), (2, x2), (1, x1), (0, x0)], r10.2⟩)) ((pv r10.2 (binA Try.prog .add 3 x3 (.v (Go.Value.int Go.IntKind.i64 1)))).bind fun r11 =>
  some (.normal, ⟨[(3, r11.1), (19, r10.1), (6, r7.1), (8, r2.1), (3, x3), (2, x2), (1, x1), (0, x0)], r11.2⟩))) (some (.exit 0, ⟨[(8, r2.1), (3, x3), (2, x2), (1, x1), (0, x0)], r2.2⟩))
theorem L_r07_Kind_0_lit {E : FnA} {n n0 : Nat} {x3 x2 x1 x0 : AV} {y : Bx} {Q : Ex → S → Prop} (h : Ends (B_r07_Kind_0 E n n0 x3 x2 x1 x0 y) Q) : Ends (L_r07_Kind_0 E n n0 ⟨[(3, x3), (2, x2), (1, x1), (0, x0)], y⟩) Q := by
  rw [show L_r07_Kind_0 E n n0 ⟨[(3, x3), (2, x2), (1, x1), (0, x0)], y⟩ = B_r07_Kind_0 E n n0 x3 x2 x1 x0 y by kernel_rfl]
  exact h
noncomputable def K_r07_Kind_0 (_E : FnA) (_n _n0 : Nat) (t : S) : Option (Ex × S) :=
  some (.ret, ⟨((2, (.v (Go.Value.int Go.IntKind.i64 0))) :: (prune kp_r07_Kind t.env)), t.bx⟩)
noncomputable def X_r07_Kind_0 (_E : FnA) (_n _n0 : Nat) (i : Nat) (t : S) : Option (Ex × S) :=
  if i = 0 then some (.ret, ⟨((2, (.v (Go.Value.int Go.IntKind.i64 0))) :: (prune kp_r07_Kind t.env)), t.bx⟩) else some (.exit i, ⟨t.env, t.bx⟩)
noncomputable def X_r07_Kind_0_0 (_E : FnA) (_n _n0 : Nat) (x8 x3 x2 x1 x0 : AV) (y : Bx) : Option (Ex × S) :=
  some (.ret, ⟨[(2, (.v (Go.Value.int Go.IntKind.i64 0))), (8, x8), (3, x3), (2, x2), (1, x1), (0, x0)], y⟩)
theorem X_r07_Kind_0_0_lit {E : FnA} {n n0 : Nat} {x8 x3 x2 x1 x0 : AV} {y : Bx} {Q : Ex → S → Prop} (h : Ends (X_r07_Kind_0_0 E n n0 x8 x3 x2 x1 x0 y) Q) : Ends (X_r07_Kind_0 E n n0 0 ⟨[(8, x8), (3, x3), (2, x2), (1, x1), (0, x0)], y⟩) Q := by
  rw [show X_r07_Kind_0 E n n0 0 ⟨[(8, x8), (3, x3), (2, x2), (1, x1), (0, x0)], y⟩ = X_r07_Kind_0_0 E n n0 x8 x3 x2 x1 x0 y by kernel_rfl]
  exact h
noncomputable def F_r07_Kind (E : FnA) (n n0 : Nat) (a0 : AV) (bx : Bx) : Option (Ex × S) :=
  (boxA bx a0).bind fun r1 =>
  exitA (iter ⟨[(3, (.v (Go.Value.int Go.IntKind.i64 1))), (2, (.v (Go.Value.int Go.IntKind.i64 0))), (1, r1.1), (0, a0)], r1.2⟩ (L_r07_Kind_0 E n n0) n ⟨[(3, (.v (Go.Value.int Go.IntKind.i64 1))), (2, (.v (Go.Value.int Go.IntKind.i64 0))), (1, r1.1), (0, a0)], r1.2⟩) (K_r07_Kind_0 E n n0) (X_r07_Kind_0 E n n0)
theorem c_r07_Kind_eq : Try.f13.body = some c_r07_Kind := by kernel_rfl
theorem d_r07_Kind : drawsOk Try.prog md0 c_r07_Kind = true := by kernel_rfl
theorem F_r07_Kind_eq (E : FnA) (n n0 : Nat) (a0 : AV) (bx : Bx) : evK Try.prog md0 E 21 kp_r07_Kind n n0 c_r07_Kind ⟨[(0, a0)], bx⟩ (fun s => some (.normal, s)) (fun i s => some (.exit i, s)) = F_r07_Kind E n n0 a0 bx := by kernel_rfl

theorem E_r07_Kind (n : Nat) (a0 : AV) (bx : Bx) : evFn cx0 ext0 (n + 1) 13 [a0] bx = fin Try.prog [.tmp 2] (F_r07_Kind (evFn cx0 ext0 n) n bx.length a0 bx) := by
  rw [evFn_eq2 (cx := cx0) (c := c_r07_Kind) rfl Try.func13 c_r07_Kind_eq (of_decide_eq_true (by kernel_rfl)) d_r07_Kind (of_decide_eq_true (by kernel_rfl))]
  exact congrArg (fin Try.prog [.tmp 2]) (F_r07_Kind_eq (evFn cx0 ext0 n) n bx.length a0 bx)

/-- scupper/scupperlaw07.works -/
def kp_l07_works : Option (List Nat) := some [0, 1, 2, 4, 5]
noncomputable def c_l07_works : Code := Try.f14.body.getD .skip
noncomputable def F_l07_works (E : FnA) (_n _n0 : Nat) (bx : Bx) : Option (Ex × S) :=
  (pv bx (buildA Try.prog 24 [])).bind fun r1 =>
  (callA E md0 r1.2 8 [(.v (Go.Value.int Go.IntKind.i64 4)), (.v (Go.Value.int Go.IntKind.u32 1)), r1.1]).bind fun r2 =>
  (pv r2.2 (tupA r2.1 0)).bind fun r3 =>
  (pv r3.2 (tupA r2.1 1)).bind fun r4 =>
  (allocA Try.prog r4.2 26).bind fun r5 =>
  (stA Try.prog 26 r5.2 r5.1 r3.1).bind fun r6 =>
  (pv r6.2 (loadA Try.prog 26 r6.2 r5.1)).bind fun r7 =>
  (callA E md0 r7.2 10 [(.v (Go.Value.int Go.IntKind.i64 4)), r7.1]).bind fun r8 =>
  (pv r8.2 (tupA r8.1 0)).bind fun r9 =>
  (pv r9.2 (tupA r8.1 1)).bind fun r10 =>
  (pv r10.2 (tupA r8.1 2)).bind fun r11 =>
  (allocA Try.prog r11.2 24).bind fun r12 =>
  (stA Try.prog 24 r12.2 r12.1 r9.1).bind fun r13 =>
  (pv r13.2 (binA Try.prog .eql 27 r4.1 (.v (Go.Value.int Go.IntKind.i64 0)))).bind fun r14 =>
  (gsel true r14.2 (pv r14.2 (indexAddrA Try.prog 26 r5.1 (.v (Go.Value.int Go.IntKind.i64 54)))) r14.1).bind fun r15 =>
  (gsel true r15.2 (pv r15.2 (loadA Try.prog 5 r15.2 r15.1)) r14.1).bind fun r16 =>
  (gsel true r16.2 (pv r16.2 (binA Try.prog .eql 5 r16.1 (.v (Go.Value.int Go.IntKind.u8 4)))) r14.1).bind fun r17 =>
  (pv r17.2 (pickA r14.1 r17.1 (.v (Go.Value.bool false)))).bind fun r18 =>
  (gsel true r18.2 (pv r18.2 (indexAddrA Try.prog 26 r5.1 (.v (Go.Value.int Go.IntKind.i64 55)))) r18.1).bind fun r19 =>
  (gsel true r19.2 (pv r19.2 (loadA Try.prog 5 r19.2 r19.1)) r18.1).bind fun r20 =>
  (gsel true r20.2 (pv r20.2 (binA Try.prog .eql 5 r20.1 (.v (Go.Value.int Go.IntKind.u8 251)))) r18.1).bind fun r21 =>
  (pv r21.2 (pickA r18.1 r21.1 (.v (Go.Value.bool false)))).bind fun r22 =>
  (gsel true r22.2 (some (r10.1, r22.2)) r22.1).bind fun r23 =>
  (gsel true r23.2 (pv r23.2 (binA Try.prog .eql 22 r23.1 (.v (Go.Value.int Go.IntKind.u32 1)))) r22.1).bind fun r24 =>
  (pv r24.2 (pickA r22.1 r24.1 (.v (Go.Value.bool false)))).bind fun r25 =>
  (gsel true r25.2 (some (r11.1, r25.2)) r25.1).bind fun r26 =>
  (gsel true r26.2 (pv r26.2 (binA Try.prog .eql 27 r26.1 (.v (Go.Value.int Go.IntKind.i64 0)))) r25.1).bind fun r27 =>
  (pv r27.2 (pickA r25.1 r27.1 (.v (Go.Value.bool false)))).bind fun r28 =>
  (gsel true r28.2 (pv r28.2 (loadA Try.prog 26 r28.2 r5.1)) r28.1).bind fun r29 =>
  (gsel true r29.2 (callA E md0 r29.2 12 [r29.1]) r28.1).bind fun r30 =>
  (gsel true r30.2 (pv r30.2 (binA Try.prog .eql 3 r30.1 (.v (Go.Value.int Go.IntKind.i64 4)))) r28.1).bind fun r31 =>
  (pv r31.2 (pickA r28.1 r31.1 (.v (Go.Value.bool false)))).bind fun r32 =>
  some (.ret, ⟨[(0, r32.1), (5, r11.1), (4, r10.1), (2, r4.1), (1, r5.1), (0, (.v (Go.Value.bool false)))], r32.2⟩)
theorem c_l07_works_eq : Try.f14.body = some c_l07_works := by kernel_rfl
theorem d_l07_works : drawsOk Try.prog md0 c_l07_works = true := by kernel_rfl
theorem F_l07_works_eq (E : FnA) (n n0 : Nat) (bx : Bx) : evK Try.prog md0 E 42 kp_l07_works n n0 c_l07_works ⟨[], bx⟩ (fun s => some (.normal, s)) (fun i s => some (.exit i, s)) = F_l07_works E n n0  bx := by kernel_rfl

theorem E_l07_works (n : Nat) (bx : Bx) : evFn cx0 ext0 (n + 1) 14 [] bx = fin Try.prog [.tmp 0] (F_l07_works (evFn cx0 ext0 n) n bx.length  bx) := by
  rw [evFn_eq2 (cx := cx0) (c := c_l07_works) rfl Try.func14 c_l07_works_eq (of_decide_eq_true (by kernel_rfl)) d_l07_works (of_decide_eq_true (by kernel_rfl))]
  exact congrArg (fin Try.prog [.tmp 0]) (F_l07_works_eq (evFn cx0 ext0 n) n bx.length  bx)

/-- scupper/seal.Next -/
def kp_seal_Next : Option (List Nat) := some [0, 1, 2, 4, 5, 6, 7, 8, 10]
noncomputable def c_seal_Next : Code := Try.f15.body.getD .skip
noncomputable def F_seal_Next (E : FnA) (_n _n0 : Nat) (a0 a1 a2 : AV) (bx : Bx) : Option (Ex × S) :=
  (boxA bx a1).bind fun r1 =>
  (boxA r1.2 a2).bind fun r2 =>
  (allocA Try.prog r2.2 26).bind fun r3 =>
  (pv r3.2 (loadA Try.prog 26 r3.2 r1.1)).bind fun r4 =>
  (callA E md0 r4.2 25 [r4.1]).bind fun r5 =>
  condA r5.1 ((pv r5.2 (loadA Try.prog 26 r5.2 r1.1)).bind fun r6 =>
  (callA E md0 r6.2 26 [r6.1]).bind fun r7 =>
  (pv r7.2 (binA Try.prog .add 22 (.v (Go.Value.int Go.IntKind.u32 1)) r7.1)).bind fun r8 =>
  (pv r8.2 (loadA Try.prog 24 r8.2 r2.1)).bind fun r9 =>
  (callA E md0 r9.2 8 [a0, r8.1, r9.1]).bind fun r10 =>
  (pv r10.2 (tupA r10.1 0)).bind fun r11 =>
  (pv r11.2 (tupA r10.1 1)).bind fun r12 =>
  (stA Try.prog 26 r12.2 r3.1 r11.1).bind fun r13 =>
  some (.ret, ⟨[(7, r12.1), (8, r8.1), (10, r5.1), (8, (.v (Go.Value.int Go.IntKind.u32 1))), (7, (.v (Go.Value.int Go.IntKind.i64 0))), (6, r3.1), (5, r2.1), (4, r1.1), (0, a0), (1, a1), (2, a2)], r13.2⟩)) ((pv r5.2 (loadA Try.prog 24 r5.2 r2.1)).bind fun r14 =>
  (callA E md0 r14.2 8 [a0, (.v (Go.Value.int Go.IntKind.u32 1)), r14.1]).bind fun r15 =>
  (pv r15.2 (tupA r15.1 0)).bind fun r16 =>
  (pv r16.2 (tupA r15.1 1)).bind fun r17 =>
  (stA Try.prog 26 r17.2 r3.1 r16.1).bind fun r18 =>
  some (.ret, ⟨[(7, r17.1), (10, r5.1), (8, (.v (Go.Value.int Go.IntKind.u32 1))), (7, (.v (Go.Value.int Go.IntKind.i64 0))), (6, r3.1), (5, r2.1), (4, r1.1), (0, a0), (1, a1), (2, a2)], r18.2⟩))
theorem c_seal_Next_eq : Try.f15.body = some c_seal_Next := by kernel_rfl
theorem d_seal_Next : drawsOk Try.prog md0 c_seal_Next = true := by kernel_rfl
theorem F_seal_Next_eq (E : FnA) (n n0 : Nat) (a0 a1 a2 : AV) (bx : Bx) : evK Try.prog md0 E 21 kp_seal_Next n n0 c_seal_Next ⟨[(0, a0), (1, a1), (2, a2)], bx⟩ (fun s => some (.normal, s)) (fun i s => some (.exit i, s)) = F_seal_Next E n n0 a0 a1 a2 bx := by kernel_rfl

theorem E_seal_Next (n : Nat) (a0 a1 a2 : AV) (bx : Bx) : evFn cx0 ext0 (n + 1) 15 [a0, a1, a2] bx = fin Try.prog [.cell 6 26, .tmp 7] (F_seal_Next (evFn cx0 ext0 n) n bx.length a0 a1 a2 bx) := by
  rw [evFn_eq2 (cx := cx0) (c := c_seal_Next) rfl Try.func15 c_seal_Next_eq (of_decide_eq_true (by kernel_rfl)) d_seal_Next (of_decide_eq_true (by kernel_rfl))]
  exact congrArg (fin Try.prog [.cell 6 26, .tmp 7]) (F_seal_Next_eq (evFn cx0 ext0 n) n bx.length a0 a1 a2 bx)

/-- scupper/scupperref07.Next -/
def kp_r07_Next : Option (List Nat) := some [0, 1, 2, 4, 5, 6, 7, 8, 9, 13]
noncomputable def c_r07_Next : Code := Try.f16.body.getD .skip
noncomputable def F_r07_Next (E : FnA) (_n _n0 : Nat) (a0 a1 a2 : AV) (bx : Bx) : Option (Ex × S) :=
  (boxA bx a1).bind fun r1 =>
  (boxA r1.2 a2).bind fun r2 =>
  (allocA Try.prog r2.2 26).bind fun r3 =>
  (pv r3.2 (loadA Try.prog 26 r3.2 r1.1)).bind fun r4 =>
  (callA E md0 r4.2 13 [r4.1]).bind fun r5 =>
  (pv r5.2 (binA Try.prog .neq 3 r5.1 (.v (Go.Value.int Go.IntKind.i64 0)))).bind fun r6 =>
  condA r6.1 ((pv r6.2 (loadA Try.prog 26 r6.2 r1.1)).bind fun r7 =>
  (callA E md0 r7.2 11 [r5.1, r7.1]).bind fun r8 =>
  (pv r8.2 (tupA r8.1 0)).bind fun r9 =>
  (pv r9.2 (tupA r8.1 1)).bind fun r10 =>
  (pv r10.2 (tupA r8.1 2)).bind fun r11 =>
  (pv r11.2 (binA Try.prog .add 22 r10.1 (.v (Go.Value.int Go.IntKind.u32 1)))).bind fun r12 =>
  (pv r12.2 (loadA Try.prog 24 r12.2 r2.1)).bind fun r13 =>
  (callA E md0 r13.2 9 [a0, r12.1, r13.1]).bind fun r14 =>
  (pv r14.2 (tupA r14.1 0)).bind fun r15 =>
  (pv r15.2 (tupA r14.1 1)).bind fun r16 =>
  (stA Try.prog 26 r16.2 r3.1 r15.1).bind fun r17 =>
  some (.ret, ⟨[(7, r16.1), (8, r10.1), (13, r6.1), (9, r5.1), (8, (.v (Go.Value.int Go.IntKind.u32 0))), (7, (.v (Go.Value.int Go.IntKind.i64 0))), (6, r3.1), (5, r2.1), (4, r1.1), (0, a0), (1, a1), (2, a2)], r17.2⟩)) ((pv r6.2 (binA Try.prog .add 22 (.v (Go.Value.int Go.IntKind.u32 0)) (.v (Go.Value.int Go.IntKind.u32 1)))).bind fun r18 =>
  (pv r18.2 (loadA Try.prog 24 r18.2 r2.1)).bind fun r19 =>
  (callA E md0 r19.2 9 [a0, r18.1, r19.1]).bind fun r20 =>
  (pv r20.2 (tupA r20.1 0)).bind fun r21 =>
  (pv r21.2 (tupA r20.1 1)).bind fun r22 =>
  (stA Try.prog 26 r22.2 r3.1 r21.1).bind fun r23 =>
  some (.ret, ⟨[(7, r22.1), (13, r6.1), (9, r5.1), (8, (.v (Go.Value.int Go.IntKind.u32 0))), (7, (.v (Go.Value.int Go.IntKind.i64 0))), (6, r3.1), (5, r2.1), (4, r1.1), (0, a0), (1, a1), (2, a2)], r23.2⟩))
theorem c_r07_Next_eq : Try.f16.body = some c_r07_Next := by kernel_rfl
theorem d_r07_Next : drawsOk Try.prog md0 c_r07_Next = true := by kernel_rfl
theorem F_r07_Next_eq (E : FnA) (n n0 : Nat) (a0 a1 a2 : AV) (bx : Bx) : evK Try.prog md0 E 28 kp_r07_Next n n0 c_r07_Next ⟨[(0, a0), (1, a1), (2, a2)], bx⟩ (fun s => some (.normal, s)) (fun i s => some (.exit i, s)) = F_r07_Next E n n0 a0 a1 a2 bx := by kernel_rfl

theorem E_r07_Next (n : Nat) (a0 a1 a2 : AV) (bx : Bx) : evFn cx0 ext0 (n + 1) 16 [a0, a1, a2] bx = fin Try.prog [.cell 6 26, .tmp 7] (F_r07_Next (evFn cx0 ext0 n) n bx.length a0 a1 a2 bx) := by
  rw [evFn_eq2 (cx := cx0) (c := c_r07_Next) rfl Try.func16 c_r07_Next_eq (of_decide_eq_true (by kernel_rfl)) d_r07_Next (of_decide_eq_true (by kernel_rfl))]
  exact congrArg (fin Try.prog [.cell 6 26, .tmp 7]) (F_r07_Next_eq (evFn cx0 ext0 n) n bx.length a0 a1 a2 bx)

/-- scupper/seal.Same -/
def kp_seal_Same : Option (List Nat) := some [0, 1, 2, 3, 4, 5, 8, 13]
noncomputable def c_seal_Same : Code := Try.f17.body.getD .skip
noncomputable def F_seal_Same (E : FnA) (_n _n0 : Nat) (a0 a1 : AV) (bx : Bx) : Option (Ex × S) :=
  (boxA bx a0).bind fun r1 =>
  (boxA r1.2 a1).bind fun r2 =>
  (pv r2.2 (loadA Try.prog 26 r2.2 r1.1)).bind fun r3 =>
  (callA E md0 r3.2 12 [r3.1]).bind fun r4 =>
  (pv r4.2 (loadA Try.prog 26 r4.2 r2.1)).bind fun r5 =>
  (callA E md0 r5.2 12 [r5.1]).bind fun r6 =>
  (pv r6.2 (binA Try.prog .neq 3 r4.1 r6.1)).bind fun r7 =>
  condA r7.1 (some (.ret, ⟨[(4, (.v (Go.Value.bool false))), (8, r7.1), (5, r4.1), (4, (.v (Go.Value.bool false))), (3, r2.1), (2, r1.1), (0, a0), (1, a1)], r7.2⟩)) ((pv r7.2 (binA Try.prog .eql 3 r4.1 (.v (Go.Value.int Go.IntKind.i64 0)))).bind fun r8 =>
  condA r8.1 ((pv r8.2 (loadA Try.prog 26 r8.2 r1.1)).bind fun r9 =>
  (pv r9.2 (loadA Try.prog 26 r9.2 r2.1)).bind fun r10 =>
  (pv r10.2 (binA Try.prog .eql 26 r9.1 r10.1)).bind fun r11 =>
  some (.ret, ⟨[(4, r11.1), (13, r8.1), (8, r7.1), (5, r4.1), (4, (.v (Go.Value.bool false))), (3, r2.1), (2, r1.1), (0, a0), (1, a1)], r11.2⟩)) ((pv r8.2 (sliceA Try.prog r8.2 26 r1.1 none (some (.v (Go.Value.int Go.IntKind.i64 54))) none)).bind fun r12 =>
  (pv r12.2 (arrPtrA Try.prog 24 r12.1)).bind fun r13 =>
  (pv r13.2 (loadA Try.prog 24 r13.2 r13.1)).bind fun r14 =>
  (pv r14.2 (sliceA Try.prog r14.2 26 r2.1 none (some (.v (Go.Value.int Go.IntKind.i64 54))) none)).bind fun r15 =>
  (pv r15.2 (arrPtrA Try.prog 24 r15.1)).bind fun r16 =>
  (pv r16.2 (loadA Try.prog 24 r16.2 r16.1)).bind fun r17 =>
  (pv r17.2 (binA Try.prog .eql 24 r14.1 r17.1)).bind fun r18 =>
  some (.ret, ⟨[(4, r18.1), (13, r8.1), (8, r7.1), (5, r4.1), (4, (.v (Go.Value.bool false))), (3, r2.1), (2, r1.1), (0, a0), (1, a1)], r18.2⟩)))
theorem c_seal_Same_eq : Try.f17.body = some c_seal_Same := by kernel_rfl
theorem d_seal_Same : drawsOk Try.prog md0 c_seal_Same = true := by kernel_rfl
theorem F_seal_Same_eq (E : FnA) (n n0 : Nat) (a0 a1 : AV) (bx : Bx) : evK Try.prog md0 E 26 kp_seal_Same n n0 c_seal_Same ⟨[(0, a0), (1, a1)], bx⟩ (fun s => some (.normal, s)) (fun i s => some (.exit i, s)) = F_seal_Same E n n0 a0 a1 bx := by kernel_rfl

theorem E_seal_Same (n : Nat) (a0 a1 : AV) (bx : Bx) : evFn cx0 ext0 (n + 1) 17 [a0, a1] bx = fin Try.prog [.tmp 4] (F_seal_Same (evFn cx0 ext0 n) n bx.length a0 a1 bx) := by
  rw [evFn_eq2 (cx := cx0) (c := c_seal_Same) rfl Try.func17 c_seal_Same_eq (of_decide_eq_true (by kernel_rfl)) d_seal_Same (of_decide_eq_true (by kernel_rfl))]
  exact congrArg (fin Try.prog [.tmp 4]) (F_seal_Same_eq (evFn cx0 ext0 n) n bx.length a0 a1 bx)

/-- scupper/scupperref07.Same -/
def kp_r07_Same : Option (List Nat) := some [0, 1, 2, 3, 4, 5, 6, 9, 17, 19]
noncomputable def c_r07_Same : Code := Try.f18.body.getD .skip
noncomputable def F_r07_Same (E : FnA) (_n _n0 : Nat) (a0 a1 : AV) (bx : Bx) : Option (Ex × S) :=
  (boxA bx a0).bind fun r1 =>
  (boxA r1.2 a1).bind fun r2 =>
  (pv r2.2 (loadA Try.prog 26 r2.2 r1.1)).bind fun r3 =>
  (callA E md0 r3.2 13 [r3.1]).bind fun r4 =>
  (pv r4.2 (loadA Try.prog 26 r4.2 r2.1)).bind fun r5 =>
  (callA E md0 r5.2 13 [r5.1]).bind fun r6 =>
  (pv r6.2 (binA Try.prog .neq 3 r4.1 r6.1)).bind fun r7 =>
  condA r7.1 (some (.ret, ⟨[(4, (.v (Go.Value.bool false))), (17, r7.1), (5, r4.1), (4, (.v (Go.Value.bool false))), (3, r2.1), (2, r1.1), (0, a0), (1, a1)], r7.2⟩)) ((pv r7.2 (binA Try.prog .eql 3 r4.1 (.v (Go.Value.int Go.IntKind.i64 0)))).bind fun r8 =>
  condA r8.1 ((pv r8.2 (loadA Try.prog 26 r8.2 r1.1)).bind fun r9 =>
  (pv r9.2 (loadA Try.prog 26 r9.2 r2.1)).bind fun r10 =>
  (pv r10.2 (binA Try.prog .eql 26 r9.1 r10.1)).bind fun r11 =>
  some (.ret, ⟨[(4, r11.1), (19, r8.1), (17, r7.1), (5, r4.1), (4, (.v (Go.Value.bool false))), (3, r2.1), (2, r1.1), (0, a0), (1, a1)], r11.2⟩)) ((pv r8.2 (loadA Try.prog 26 r8.2 r1.1)).bind fun r12 =>
  (callA E md0 r12.2 11 [r4.1, r12.1]).bind fun r13 =>
  (pv r13.2 (tupA r13.1 0)).bind fun r14 =>
  (pv r14.2 (tupA r13.1 1)).bind fun r15 =>
  (pv r15.2 (tupA r13.1 2)).bind fun r16 =>
  (allocA Try.prog r16.2 24).bind fun r17 =>
  (stA Try.prog 24 r17.2 r17.1 r14.1).bind fun r18 =>
  (pv r18.2 (loadA Try.prog 26 r18.2 r2.1)).bind fun r19 =>
  (callA E md0 r19.2 11 [r4.1, r19.1]).bind fun r20 =>
  (pv r20.2 (tupA r20.1 0)).bind fun r21 =>
  (pv r21.2 (tupA r20.1 1)).bind fun r22 =>
  (pv r22.2 (tupA r20.1 2)).bind fun r23 =>
  (allocA Try.prog r23.2 24).bind fun r24 =>
  (stA Try.prog 24 r24.2 r24.1 r21.1).bind fun r25 =>
  (pv r25.2 (loadA Try.prog 24 r25.2 r17.1)).bind fun r26 =>
  (pv r26.2 (loadA Try.prog 24 r26.2 r24.1)).bind fun r27 =>
  (pv r27.2 (binA Try.prog .eql 24 r26.1 r27.1)).bind fun r28 =>
  some (.ret, ⟨[(4, r28.1), (9, r24.1), (6, r17.1), (19, r8.1), (17, r7.1), (5, r4.1), (4, (.v (Go.Value.bool false))), (3, r2.1), (2, r1.1), (0, a0), (1, a1)], r28.2⟩)))
theorem c_r07_Same_eq : Try.f18.body = some c_r07_Same := by kernel_rfl
theorem d_r07_Same : drawsOk Try.prog md0 c_r07_Same = true := by kernel_rfl
theorem F_r07_Same_eq (E : FnA) (n n0 : Nat) (a0 a1 : AV) (bx : Bx) : evK Try.prog md0 E 40 kp_r07_Same n n0 c_r07_Same ⟨[(0, a0), (1, a1)], bx⟩ (fun s => some (.normal, s)) (fun i s => some (.exit i, s)) = F_r07_Same E n n0 a0 a1 bx := by kernel_rfl

theorem E_r07_Same (n : Nat) (a0 a1 : AV) (bx : Bx) : evFn cx0 ext0 (n + 1) 18 [a0, a1] bx = fin Try.prog [.tmp 4] (F_r07_Same (evFn cx0 ext0 n) n bx.length a0 a1 bx) := by
  rw [evFn_eq2 (cx := cx0) (c := c_r07_Same) rfl Try.func18 c_r07_Same_eq (of_decide_eq_true (by kernel_rfl)) d_r07_Same (of_decide_eq_true (by kernel_rfl))]
  exact congrArg (fin Try.prog [.tmp 4]) (F_r07_Same_eq (evFn cx0 ext0 n) n bx.length a0 a1 bx)

/-- scupper/seal.may -/
def kp_seal_may : Option (List Nat) := some [0, 2]
noncomputable def c_seal_may : Code := Try.f19.body.getD .skip
noncomputable def F_seal_may (_E : FnA) (_n _n0 : Nat) (a0 : AV) (bx : Bx) : Option (Ex × S) :=
  (pv bx (binA Try.prog .geq 3 a0 (.v (Go.Value.int Go.IntKind.i64 1)))).bind fun r1 =>
  (gsel true r1.2 (some (a0, r1.2)) r1.1).bind fun r2 =>
  (gsel true r2.2 (pv r2.2 (binA Try.prog .leq 3 r2.1 (.v (Go.Value.int Go.IntKind.i64 6)))) r1.1).bind fun r3 =>
  (pv r3.2 (pickA r1.1 r3.1 (.v (Go.Value.bool false)))).bind fun r4 =>
  some (.ret, ⟨[(2, r4.1), (2, (.v (Go.Value.bool false))), (0, a0)], r4.2⟩)
theorem c_seal_may_eq : Try.f19.body = some c_seal_may := by kernel_rfl
theorem d_seal_may : drawsOk Try.prog md0 c_seal_may = true := by kernel_rfl
theorem F_seal_may_eq (E : FnA) (n n0 : Nat) (a0 : AV) (bx : Bx) : evK Try.prog md0 E 9 kp_seal_may n n0 c_seal_may ⟨[(0, a0)], bx⟩ (fun s => some (.normal, s)) (fun i s => some (.exit i, s)) = F_seal_may E n n0 a0 bx := by kernel_rfl

theorem E_seal_may (n : Nat) (a0 : AV) (bx : Bx) : evFn cx0 ext0 (n + 1) 19 [a0] bx = fin Try.prog [.tmp 2] (F_seal_may (evFn cx0 ext0 n) n bx.length a0 bx) := by
  rw [evFn_eq2 (cx := cx0) (c := c_seal_may) rfl Try.func19 c_seal_may_eq (of_decide_eq_true (by kernel_rfl)) d_seal_may (of_decide_eq_true (by kernel_rfl))]
  exact congrArg (fin Try.prog [.tmp 2]) (F_seal_may_eq (evFn cx0 ext0 n) n bx.length a0 bx)

/-- scupper/num.Put32 -/
def kp_num_Put32 : Option (List Nat) := some [0, 2, 3, 4, 5, 6]
noncomputable def c_num_Put32 : Code := Try.f20.body.getD .skip
noncomputable def L_num_Put32_0 (_E : FnA) (_n _n0 : Nat) (s : S) : Option (Ex × S) :=
  (pv s.bx (binA Try.prog .lss 3 (get s.env 5) (.v (Go.Value.int Go.IntKind.i64 4)))).bind fun r10 =>
  condA r10.1 ((pv r10.2 (binA Try.prog .mul 3 (.v (Go.Value.int Go.IntKind.i64 8)) (get (prune kp_num_Put32 s.env) 5))).bind fun r11 =>
  (pv r11.2 (binA Try.prog .shr 22 (get (prune kp_num_Put32 (prune kp_num_Put32 s.env)) 0) r11.1)).bind fun r12 =>
  (convA Try.prog r12.2 22 5 r12.1).bind fun r13 =>
  (pv r13.2 (indexAddrA Try.prog 43 (get (prune kp_num_Put32 (prune kp_num_Put32 s.env)) 3) (get (prune kp_num_Put32 s.env) 5))).bind fun r14 =>
  (stA Try.prog 5 r14.2 r14.1 r13.1).bind fun r15 =>
  (pv r15.2 (binA Try.prog .add 3 (get (prune kp_num_Put32 (prune kp_num_Put32 (prune kp_num_Put32 s.env))) 5) (.v (Go.Value.int Go.IntKind.i64 1)))).bind fun r16 =>
  some (.normal, ⟨((5, r16.1) :: (4, (get (prune kp_num_Put32 s.env) 5)) :: (6, r10.1) :: (prune kp_num_Put32 (prune kp_num_Put32 (prune kp_num_Put32 (prune kp_num_Put32 s.env))))), r16.2⟩)) (some (.exit 0, ⟨((6, r10.1) :: (prune kp_num_Put32 s.env)), r10.2⟩))
noncomputable def B_num_Put32_0 (_E : FnA) (_n _n0 : Nat) (x5 x3 x2 x0 : AV) (y : Bx) : Option (Ex × S) :=
  (pv y (binA Try.prog .lss 3 x5 (.v (Go.Value.int Go.IntKind.i64 4)))).bind fun r3 =>
  condA r3.1 ((pv r3.2 (binA Try.prog .mul 3 (.v (Go.Value.int Go.IntKind.i64 8)) x5)).bind fun r4 =>
  (pv r4.2 (binA Try.prog .shr 22 x0 r4.1)).bind fun r5 =>
  (convA Try.prog r5.2 22 5 r5.1).bind fun r6 =>
  (pv r6.2 (indexAddrA Try.prog 43 x3 x5)).bind fun r7 =>
  (stA Try.prog 5 r7.2 r7.1 r6.1).bind fun r8 =>
  (pv r8.2 (binA Try.prog .add 3 x5 (.v (Go.Value.int Go.IntKind.i64 1)))).bind fun r9 =>
  some (.normal, ⟨[(5, r9.1), (4, x5), (6, r3.1), (5, x5), (3, x3), (2, x2), (0, x0)], r9.2⟩)) (some (.exit 0, ⟨[(6, r3.1), (5, x5), (3, x3), (2, x2), (0, x0)], r3.2⟩))
theorem L_num_Put32_0_lit {E : FnA} {n n0 : Nat} {x5 x3 x2 x0 : AV} {y : Bx} {Q : Ex → S → Prop} (h : Ends (B_num_Put32_0 E n n0 x5 x3 x2 x0 y) Q) : Ends (L_num_Put32_0 E n n0 ⟨[(5, x5), (3, x3), (2, x2), (0, x0)], y⟩) Q := by
  rw [show L_num_Put32_0 E n n0 ⟨[(5, x5), (3, x3), (2, x2), (0, x0)], y⟩ = B_num_Put32_0 E n n0 x5 x3 x2 x0 y by kernel_rfl]
  exact h
noncomputable def K_num_Put32_0 (_E : FnA) (_n _n0 : Nat) (t : S) : Option (Ex × S) :=
  (pv t.bx (loadA Try.prog 43 t.bx (get t.env 3))).bind fun r19 =>
  (stA Try.prog 43 r19.2 (get t.env 2) r19.1).bind fun r20 =>
  some (.ret, ⟨(prune kp_num_Put32 t.env), r20.2⟩)
noncomputable def X_num_Put32_0 (_E : FnA) (_n _n0 : Nat) (i : Nat) (t : S) : Option (Ex × S) :=
  if i = 0 then (pv t.bx (loadA Try.prog 43 t.bx (get t.env 3))).bind fun r17 =>
  (stA Try.prog 43 r17.2 (get t.env 2) r17.1).bind fun r18 =>
  some (.ret, ⟨(prune kp_num_Put32 t.env), r18.2⟩) else some (.exit i, ⟨t.env, t.bx⟩)
noncomputable def X_num_Put32_0_0 (_E : FnA) (_n _n0 : Nat) (x6 x5 x3 x2 x0 : AV) (y : Bx) : Option (Ex × S) :=
  (pv y (loadA Try.prog 43 y x3)).bind fun r21 =>
  (stA Try.prog 43 r21.2 x2 r21.1).bind fun r22 =>
  some (.ret, ⟨[(6, x6), (5, x5), (3, x3), (2, x2), (0, x0)], r22.2⟩)
theorem X_num_Put32_0_0_lit {E : FnA} {n n0 : Nat} {x6 x5 x3 x2 x0 : AV} {y : Bx} {Q : Ex → S → Prop} (h : Ends (X_num_Put32_0_0 E n n0 x6 x5 x3 x2 x0 y) Q) : Ends (X_num_Put32_0 E n n0 0 ⟨[(6, x6), (5, x5), (3, x3), (2, x2), (0, x0)], y⟩) Q := by
  rw [show X_num_Put32_0 E n n0 0 ⟨[(6, x6), (5, x5), (3, x3), (2, x2), (0, x0)], y⟩ = X_num_Put32_0_0 E n n0 x6 x5 x3 x2 x0 y by kernel_rfl]
  exact h
noncomputable def F_num_Put32 (E : FnA) (n n0 : Nat) (a0 : AV) (bx : Bx) : Option (Ex × S) :=
  (allocA Try.prog bx 43).bind fun r1 =>
  (allocA Try.prog r1.2 43).bind fun r2 =>
  exitA (iter ⟨[(5, (.v (Go.Value.int Go.IntKind.i64 0))), (3, r2.1), (2, r1.1), (0, a0)], r2.2⟩ (L_num_Put32_0 E n n0) n ⟨[(5, (.v (Go.Value.int Go.IntKind.i64 0))), (3, r2.1), (2, r1.1), (0, a0)], r2.2⟩) (K_num_Put32_0 E n n0) (X_num_Put32_0 E n n0)
theorem c_num_Put32_eq : Try.f20.body = some c_num_Put32 := by kernel_rfl
theorem d_num_Put32 : drawsOk Try.prog md0 c_num_Put32 = true := by kernel_rfl
theorem F_num_Put32_eq (E : FnA) (n n0 : Nat) (a0 : AV) (bx : Bx) : evK Try.prog md0 E 17 kp_num_Put32 n n0 c_num_Put32 ⟨[(0, a0)], bx⟩ (fun s => some (.normal, s)) (fun i s => some (.exit i, s)) = F_num_Put32 E n n0 a0 bx := by kernel_rfl

theorem E_num_Put32 (n : Nat) (a0 : AV) (bx : Bx) : evFn cx0 ext0 (n + 1) 20 [a0] bx = fin Try.prog [.cell 2 43] (F_num_Put32 (evFn cx0 ext0 n) n bx.length a0 bx) := by
  rw [evFn_eq2 (cx := cx0) (c := c_num_Put32) rfl Try.func20 c_num_Put32_eq (of_decide_eq_true (by kernel_rfl)) d_num_Put32 (of_decide_eq_true (by kernel_rfl))]
  exact congrArg (fin Try.prog [.cell 2 43]) (F_num_Put32_eq (evFn cx0 ext0 n) n bx.length a0 bx)

/-- scupper/crc.Of -/
def kp_crc_Of : Option (List Nat) := some [0, 2, 3, 5, 7, 8, 9, 10]
noncomputable def c_crc_Of : Code := Try.f21.body.getD .skip
noncomputable def L_crc_Of_0 (E : FnA) (_n _n0 : Nat) (s : S) : Option (Ex × S) :=
  (pv s.bx (binA Try.prog .lss 3 (get s.env 9) (get s.env 8))).bind fun r12 =>
  condA r12.1 ((pv r12.2 (indexAddrA Try.prog 51 (get (prune kp_crc_Of s.env) 7) (get (prune kp_crc_Of s.env) 9))).bind fun r13 =>
  (pv r13.2 (loadA Try.prog 42 r13.2 r13.1)).bind fun r14 =>
  (pv r14.2 (loadA Try.prog 53 r14.2 (get (prune kp_crc_Of (prune kp_crc_Of s.env)) 3))).bind fun r15 =>
  (callA E md0 r15.2 29 [r15.1, r14.1]).bind fun r16 =>
  (stA Try.prog 53 r16.2 (get (prune kp_crc_Of (prune kp_crc_Of s.env)) 3) r16.1).bind fun r17 =>
  (pv r17.2 (binA Try.prog .add 3 (get (prune kp_crc_Of (prune kp_crc_Of (prune kp_crc_Of s.env))) 9) (.v (Go.Value.int Go.IntKind.i64 1)))).bind fun r18 =>
  some (.normal, ⟨((9, r18.1) :: (5, r14.1) :: (10, r12.1) :: (prune kp_crc_Of (prune kp_crc_Of (prune kp_crc_Of (prune kp_crc_Of s.env))))), r18.2⟩)) (some (.exit 0, ⟨((10, r12.1) :: (prune kp_crc_Of s.env)), r12.2⟩))
noncomputable def B_crc_Of_0 (E : FnA) (_n _n0 : Nat) (x9 x8 x7 x3 x2 x0 : AV) (y : Bx) : Option (Ex × S) :=
  (pv y (binA Try.prog .lss 3 x9 x8)).bind fun r5 =>
  condA r5.1 ((pv r5.2 (indexAddrA Try.prog 51 x7 x9)).bind fun r6 =>
  (pv r6.2 (loadA Try.prog 42 r6.2 r6.1)).bind fun r7 =>
  (pv r7.2 (loadA Try.prog 53 r7.2 x3)).bind fun r8 =>
  (callA E md0 r8.2 29 [r8.1, r7.1]).bind fun r9 =>
  (stA Try.prog 53 r9.2 x3 r9.1).bind fun r10 =>
  (pv r10.2 (binA Try.prog .add 3 x9 (.v (Go.Value.int Go.IntKind.i64 1)))).bind fun r11 =>
  some (.normal, ⟨[(9, r11.1), (5, r7.1), (10, r5.1), (9, x9), (8, x8), (7, x7), (3, x3), (2, x2), (0, x0)], r11.2⟩)) (some (.exit 0, ⟨[(10, r5.1), (9, x9), (8, x8), (7, x7), (3, x3), (2, x2), (0, x0)], r5.2⟩))
theorem L_crc_Of_0_lit {E : FnA} {n n0 : Nat} {x9 x8 x7 x3 x2 x0 : AV} {y : Bx} {Q : Ex → S → Prop} (h : Ends (B_crc_Of_0 E n n0 x9 x8 x7 x3 x2 x0 y) Q) : Ends (L_crc_Of_0 E n n0 ⟨[(9, x9), (8, x8), (7, x7), (3, x3), (2, x2), (0, x0)], y⟩) Q := by
  rw [show L_crc_Of_0 E n n0 ⟨[(9, x9), (8, x8), (7, x7), (3, x3), (2, x2), (0, x0)], y⟩ = B_crc_Of_0 E n n0 x9 x8 x7 x3 x2 x0 y by kernel_rfl]
  exact h
noncomputable def K_crc_Of_0 (E : FnA) (_n _n0 : Nat) (t : S) : Option (Ex × S) :=
  (pv t.bx (loadA Try.prog 53 t.bx (get t.env 3))).bind fun r21 =>
  (callA E md0 r21.2 30 [r21.1]).bind fun r22 =>
  some (.ret, ⟨((2, r22.1) :: (prune kp_crc_Of t.env)), r22.2⟩)
noncomputable def X_crc_Of_0 (E : FnA) (_n _n0 : Nat) (i : Nat) (t : S) : Option (Ex × S) :=
  if i = 0 then (pv t.bx (loadA Try.prog 53 t.bx (get t.env 3))).bind fun r19 =>
  (callA E md0 r19.2 30 [r19.1]).bind fun r20 =>
  some (.ret, ⟨((2, r20.1) :: (prune kp_crc_Of t.env)), r20.2⟩) else some (.exit i, ⟨t.env, t.bx⟩)
noncomputable def X_crc_Of_0_0 (E : FnA) (_n _n0 : Nat) (x10 x9 x8 x7 x3 x2 x0 : AV) (y : Bx) : Option (Ex × S) :=
  (pv y (loadA Try.prog 53 y x3)).bind fun r23 =>
  (callA E md0 r23.2 30 [r23.1]).bind fun r24 =>
  some (.ret, ⟨[(2, r24.1), (10, x10), (9, x9), (8, x8), (7, x7), (3, x3), (2, x2), (0, x0)], r24.2⟩)
theorem X_crc_Of_0_0_lit {E : FnA} {n n0 : Nat} {x10 x9 x8 x7 x3 x2 x0 : AV} {y : Bx} {Q : Ex → S → Prop} (h : Ends (X_crc_Of_0_0 E n n0 x10 x9 x8 x7 x3 x2 x0 y) Q) : Ends (X_crc_Of_0 E n n0 0 ⟨[(10, x10), (9, x9), (8, x8), (7, x7), (3, x3), (2, x2), (0, x0)], y⟩) Q := by
  rw [show X_crc_Of_0 E n n0 0 ⟨[(10, x10), (9, x9), (8, x8), (7, x7), (3, x3), (2, x2), (0, x0)], y⟩ = X_crc_Of_0_0 E n n0 x10 x9 x8 x7 x3 x2 x0 y by kernel_rfl]
  exact h
noncomputable def F_crc_Of (E : FnA) (n n0 : Nat) (a0 : AV) (bx : Bx) : Option (Ex × S) :=
  (callA E md0 bx 28 []).bind fun r1 =>
  (allocA Try.prog r1.2 53).bind fun r2 =>
  (stA Try.prog 53 r2.2 r2.1 r1.1).bind fun r3 =>
  (pv r3.2 (lenA Try.prog 51 a0)).bind fun r4 =>
  exitA (iter ⟨[(9, (.v (Go.Value.int Go.IntKind.i64 0))), (8, r4.1), (7, a0), (3, r2.1), (2, (.v (Go.Value.int Go.IntKind.u32 0))), (0, a0)], r4.2⟩ (L_crc_Of_0 E n n0) n ⟨[(9, (.v (Go.Value.int Go.IntKind.i64 0))), (8, r4.1), (7, a0), (3, r2.1), (2, (.v (Go.Value.int Go.IntKind.u32 0))), (0, a0)], r4.2⟩) (K_crc_Of_0 E n n0) (X_crc_Of_0 E n n0)
theorem c_crc_Of_eq : Try.f21.body = some c_crc_Of := by kernel_rfl
theorem d_crc_Of : drawsOk Try.prog md0 c_crc_Of = true := by kernel_rfl
theorem F_crc_Of_eq (E : FnA) (n n0 : Nat) (a0 : AV) (bx : Bx) : evK Try.prog md0 E 19 kp_crc_Of n n0 c_crc_Of ⟨[(0, a0)], bx⟩ (fun s => some (.normal, s)) (fun i s => some (.exit i, s)) = F_crc_Of E n n0 a0 bx := by kernel_rfl

theorem E_crc_Of (n : Nat) (a0 : AV) (bx : Bx) : evFn cx0 ext0 (n + 1) 21 [a0] bx = fin Try.prog [.tmp 2] (F_crc_Of (evFn cx0 ext0 n) n bx.length a0 bx) := by
  rw [evFn_eq2 (cx := cx0) (c := c_crc_Of) rfl Try.func21 c_crc_Of_eq (of_decide_eq_true (by kernel_rfl)) d_crc_Of (of_decide_eq_true (by kernel_rfl))]
  exact congrArg (fin Try.prog [.tmp 2]) (F_crc_Of_eq (evFn cx0 ext0 n) n bx.length a0 bx)

/-- scupper/scupperref07.may -/
def kp_r07_may : Option (List Nat) := some [0, 2]
noncomputable def c_r07_may : Code := Try.f22.body.getD .skip
noncomputable def F_r07_may (_E : FnA) (_n _n0 : Nat) (a0 : AV) (bx : Bx) : Option (Ex × S) :=
  (pv bx (binA Try.prog .geq 3 a0 (.v (Go.Value.int Go.IntKind.i64 1)))).bind fun r1 =>
  (gsel true r1.2 (some (a0, r1.2)) r1.1).bind fun r2 =>
  (gsel true r2.2 (pv r2.2 (binA Try.prog .leq 3 r2.1 (.v (Go.Value.int Go.IntKind.i64 6)))) r1.1).bind fun r3 =>
  (pv r3.2 (pickA r1.1 r3.1 (.v (Go.Value.bool false)))).bind fun r4 =>
  some (.ret, ⟨[(2, r4.1), (2, (.v (Go.Value.bool false))), (0, a0)], r4.2⟩)
theorem c_r07_may_eq : Try.f22.body = some c_r07_may := by kernel_rfl
theorem d_r07_may : drawsOk Try.prog md0 c_r07_may = true := by kernel_rfl
theorem F_r07_may_eq (E : FnA) (n n0 : Nat) (a0 : AV) (bx : Bx) : evK Try.prog md0 E 9 kp_r07_may n n0 c_r07_may ⟨[(0, a0)], bx⟩ (fun s => some (.normal, s)) (fun i s => some (.exit i, s)) = F_r07_may E n n0 a0 bx := by kernel_rfl

theorem E_r07_may (n : Nat) (a0 : AV) (bx : Bx) : evFn cx0 ext0 (n + 1) 22 [a0] bx = fin Try.prog [.tmp 2] (F_r07_may (evFn cx0 ext0 n) n bx.length a0 bx) := by
  rw [evFn_eq2 (cx := cx0) (c := c_r07_may) rfl Try.func22 c_r07_may_eq (of_decide_eq_true (by kernel_rfl)) d_r07_may (of_decide_eq_true (by kernel_rfl))]
  exact congrArg (fin Try.prog [.tmp 2]) (F_r07_may_eq (evFn cx0 ext0 n) n bx.length a0 bx)

/-- scupper/scupperref01.Put32 -/
def kp_r01_Put32 : Option (List Nat) := some [0, 2]
noncomputable def c_r01_Put32 : Code := Try.f23.body.getD .skip
noncomputable def F_r01_Put32 (_E : FnA) (_n _n0 : Nat) (a0 : AV) (bx : Bx) : Option (Ex × S) :=
  (some (AV.bsl (List.length bx) 0 0 0, bx ++ [[]])).bind fun r1 =>
  (pv r1.2 (binA Try.prog .rem 22 a0 (.v (Go.Value.int Go.IntKind.u32 256)))).bind fun r2 =>
  (convA Try.prog r2.2 22 5 r2.1).bind fun r3 =>
  (pv r3.2 (binA Try.prog .quo 22 a0 (.v (Go.Value.int Go.IntKind.u32 256)))).bind fun r4 =>
  (pv r4.2 (binA Try.prog .rem 22 r4.1 (.v (Go.Value.int Go.IntKind.u32 256)))).bind fun r5 =>
  (convA Try.prog r5.2 22 5 r5.1).bind fun r6 =>
  (pv r6.2 (binA Try.prog .quo 22 a0 (.v (Go.Value.int Go.IntKind.u32 65536)))).bind fun r7 =>
  (pv r7.2 (binA Try.prog .rem 22 r7.1 (.v (Go.Value.int Go.IntKind.u32 256)))).bind fun r8 =>
  (convA Try.prog r8.2 22 5 r8.1).bind fun r9 =>
  (pv r9.2 (binA Try.prog .quo 22 a0 (.v (Go.Value.int Go.IntKind.u32 16777216)))).bind fun r10 =>
  (convA Try.prog r10.2 22 5 r10.1).bind fun r11 =>
  (buildSliceA Try.prog r11.2 42 4 [(0, r3.1), (1, r6.1), (2, r9.1), (3, r11.1)]).bind fun r12 =>
  some (.ret, ⟨[(2, r12.1), (2, r1.1), (0, a0)], r12.2⟩)
theorem c_r01_Put32_eq : Try.f23.body = some c_r01_Put32 := by kernel_rfl
theorem d_r01_Put32 : drawsOk Try.prog md0 c_r01_Put32 = true := by kernel_rfl
theorem F_r01_Put32_eq (E : FnA) (n n0 : Nat) (a0 : AV) (bx : Bx) : evK Try.prog md0 E 18 kp_r01_Put32 n n0 c_r01_Put32 ⟨[(0, a0)], bx⟩ (fun s => some (.normal, s)) (fun i s => some (.exit i, s)) = F_r01_Put32 E n n0 a0 bx := by kernel_rfl

theorem E_r01_Put32 (n : Nat) (a0 : AV) (bx : Bx) : evFn cx0 ext0 (n + 1) 23 [a0] bx = fin Try.prog [.tmp 2] (F_r01_Put32 (evFn cx0 ext0 n) n bx.length a0 bx) := by
  rw [evFn_eq2 (cx := cx0) (c := c_r01_Put32) rfl Try.func23 c_r01_Put32_eq (of_decide_eq_true (by kernel_rfl)) d_r01_Put32 (of_decide_eq_true (by kernel_rfl))]
  exact congrArg (fin Try.prog [.tmp 2]) (F_r01_Put32_eq (evFn cx0 ext0 n) n bx.length a0 bx)

/-- scupper/scupperref02.Of -/
def kp_r02_Of : Option (List Nat) := some [0, 2]
noncomputable def c_r02_Of : Code := Try.f24.body.getD .skip
noncomputable def F_r02_Of (E : FnA) (_n _n0 : Nat) (a0 : AV) (bx : Bx) : Option (Ex × S) :=
  (callA E md0 bx 31 [(.v (Go.Value.int Go.IntKind.u32 4294967295)), a0]).bind fun r1 =>
  (pv r1.2 (binA Try.prog .sub 22 (.v (Go.Value.int Go.IntKind.u32 4294967295)) r1.1)).bind fun r2 =>
  some (.ret, ⟨[(2, r2.1), (2, (.v (Go.Value.int Go.IntKind.u32 0))), (0, a0)], r2.2⟩)
theorem c_r02_Of_eq : Try.f24.body = some c_r02_Of := by kernel_rfl
theorem d_r02_Of : drawsOk Try.prog md0 c_r02_Of = true := by kernel_rfl
theorem F_r02_Of_eq (E : FnA) (n n0 : Nat) (a0 : AV) (bx : Bx) : evK Try.prog md0 E 6 kp_r02_Of n n0 c_r02_Of ⟨[(0, a0)], bx⟩ (fun s => some (.normal, s)) (fun i s => some (.exit i, s)) = F_r02_Of E n n0 a0 bx := by kernel_rfl

theorem E_r02_Of (n : Nat) (a0 : AV) (bx : Bx) : evFn cx0 ext0 (n + 1) 24 [a0] bx = fin Try.prog [.tmp 2] (F_r02_Of (evFn cx0 ext0 n) n bx.length a0 bx) := by
  rw [evFn_eq2 (cx := cx0) (c := c_r02_Of) rfl Try.func24 c_r02_Of_eq (of_decide_eq_true (by kernel_rfl)) d_r02_Of (of_decide_eq_true (by kernel_rfl))]
  exact congrArg (fin Try.prog [.tmp 2]) (F_r02_Of_eq (evFn cx0 ext0 n) n bx.length a0 bx)

/-- scupper/seal.right -/
def kp_seal_right : Option (List Nat) := some [0, 1, 2, 3, 4, 5]
noncomputable def c_seal_right : Code := Try.f25.body.getD .skip
noncomputable def F_seal_right (E : FnA) (_n _n0 : Nat) (a0 : AV) (bx : Bx) : Option (Ex × S) :=
  (boxA bx a0).bind fun r1 =>
  (pv r1.2 (indexAddrA Try.prog 26 r1.1 (.v (Go.Value.int Go.IntKind.i64 54)))).bind fun r2 =>
  (pv r2.2 (loadA Try.prog 5 r2.2 r2.1)).bind fun r3 =>
  (convA Try.prog r3.2 5 3 r3.1).bind fun r4 =>
  (allocA Try.prog r4.2 26).bind fun r5 =>
  (pv r5.2 (loadA Try.prog 26 r5.2 r1.1)).bind fun r6 =>
  (callA E md0 r6.2 26 [r6.1]).bind fun r7 =>
  (pv r7.2 (sliceA Try.prog r7.2 26 r1.1 none (some (.v (Go.Value.int Go.IntKind.i64 54))) none)).bind fun r8 =>
  (pv r8.2 (arrPtrA Try.prog 24 r8.1)).bind fun r9 =>
  (pv r9.2 (loadA Try.prog 24 r9.2 r9.1)).bind fun r10 =>
  (callA E md0 r10.2 8 [r4.1, r7.1, r10.1]).bind fun r11 =>
  (pv r11.2 (tupA r11.1 0)).bind fun r12 =>
  (pv r12.2 (tupA r11.1 1)).bind fun r13 =>
  (stA Try.prog 26 r13.2 r5.1 r12.1).bind fun r14 =>
  (pv r14.2 (binA Try.prog .eql 27 r13.1 (.v (Go.Value.int Go.IntKind.i64 0)))).bind fun r15 =>
  (gsel true r15.2 (pv r15.2 (loadA Try.prog 26 r15.2 r5.1)) r15.1).bind fun r16 =>
  (gsel true r16.2 (pv r16.2 (loadA Try.prog 26 r16.2 r1.1)) r15.1).bind fun r17 =>
  (gsel true r17.2 (pv r17.2 (binA Try.prog .eql 26 r16.1 r17.1)) r15.1).bind fun r18 =>
  (pv r18.2 (pickA r15.1 r18.1 (.v (Go.Value.bool false)))).bind fun r19 =>
  some (.ret, ⟨[(2, r19.1), (5, r13.1), (4, r5.1), (3, r4.1), (2, (.v (Go.Value.bool false))), (1, r1.1), (0, a0)], r19.2⟩)
theorem c_seal_right_eq : Try.f25.body = some c_seal_right := by kernel_rfl
theorem d_seal_right : drawsOk Try.prog md0 c_seal_right = true := by kernel_rfl
theorem F_seal_right_eq (E : FnA) (n n0 : Nat) (a0 : AV) (bx : Bx) : evK Try.prog md0 E 26 kp_seal_right n n0 c_seal_right ⟨[(0, a0)], bx⟩ (fun s => some (.normal, s)) (fun i s => some (.exit i, s)) = F_seal_right E n n0 a0 bx := by kernel_rfl

theorem E_seal_right (n : Nat) (a0 : AV) (bx : Bx) : evFn cx0 ext0 (n + 1) 25 [a0] bx = fin Try.prog [.tmp 2] (F_seal_right (evFn cx0 ext0 n) n bx.length a0 bx) := by
  rw [evFn_eq2 (cx := cx0) (c := c_seal_right) rfl Try.func25 c_seal_right_eq (of_decide_eq_true (by kernel_rfl)) d_seal_right (of_decide_eq_true (by kernel_rfl))]
  exact congrArg (fin Try.prog [.tmp 2]) (F_seal_right_eq (evFn cx0 ext0 n) n bx.length a0 bx)

/-- scupper/seal.turnOf -/
def kp_seal_turnOf : Option (List Nat) := some [0, 1, 2, 3]
noncomputable def c_seal_turnOf : Code := Try.f26.body.getD .skip
noncomputable def F_seal_turnOf (E : FnA) (_n _n0 : Nat) (a0 : AV) (bx : Bx) : Option (Ex × S) :=
  (boxA bx a0).bind fun r1 =>
  (pv r1.2 (sliceA Try.prog r1.2 26 r1.1 none none none)).bind fun r2 =>
  (callA E md0 r2.2 32 [r2.1, (.v (Go.Value.int Go.IntKind.i64 56))]).bind fun r3 =>
  (pv r3.2 (tupA r3.1 0)).bind fun r4 =>
  (pv r4.2 (tupA r3.1 1)).bind fun r5 =>
  some (.ret, ⟨[(2, r4.1), (3, r4.1), (2, (.v (Go.Value.int Go.IntKind.u32 0))), (1, r1.1), (0, a0)], r5.2⟩)
theorem c_seal_turnOf_eq : Try.f26.body = some c_seal_turnOf := by kernel_rfl
theorem d_seal_turnOf : drawsOk Try.prog md0 c_seal_turnOf = true := by kernel_rfl
theorem F_seal_turnOf_eq (E : FnA) (n n0 : Nat) (a0 : AV) (bx : Bx) : evK Try.prog md0 E 11 kp_seal_turnOf n n0 c_seal_turnOf ⟨[(0, a0)], bx⟩ (fun s => some (.normal, s)) (fun i s => some (.exit i, s)) = F_seal_turnOf E n n0 a0 bx := by kernel_rfl

theorem E_seal_turnOf (n : Nat) (a0 : AV) (bx : Bx) : evFn cx0 ext0 (n + 1) 26 [a0] bx = fin Try.prog [.tmp 2] (F_seal_turnOf (evFn cx0 ext0 n) n bx.length a0 bx) := by
  rw [evFn_eq2 (cx := cx0) (c := c_seal_turnOf) rfl Try.func26 c_seal_turnOf_eq (of_decide_eq_true (by kernel_rfl)) d_seal_turnOf (of_decide_eq_true (by kernel_rfl))]
  exact congrArg (fin Try.prog [.tmp 2]) (F_seal_turnOf_eq (evFn cx0 ext0 n) n bx.length a0 bx)

/-- scupper/scupperref01.Get32 -/
def kp_r01_Get32 : Option (List Nat) := some [0, 1, 4, 5, 6, 7]
noncomputable def c_r01_Get32 : Code := Try.f27.body.getD .skip
noncomputable def F_r01_Get32 (E : FnA) (_n _n0 : Nat) (a0 a1 : AV) (bx : Bx) : Option (Ex × S) :=
  (callA E md0 bx 33 [a0, a1, (.v (Go.Value.int Go.IntKind.i64 4))]).bind fun r1 =>
  (pv r1.2 (tupA r1.1 0)).bind fun r2 =>
  (pv r2.2 (tupA r1.1 1)).bind fun r3 =>
  (convA Try.prog r3.2 58 22 r2.1).bind fun r4 =>
  some (.ret, ⟨[(5, r3.1), (4, r4.1), (7, r3.1), (6, r2.1), (5, (.v (Go.Value.int Go.IntKind.i64 0))), (4, (.v (Go.Value.int Go.IntKind.u32 0))), (0, a0), (1, a1)], r4.2⟩)
theorem c_r01_Get32_eq : Try.f27.body = some c_r01_Get32 := by kernel_rfl
theorem d_r01_Get32 : drawsOk Try.prog md0 c_r01_Get32 = true := by kernel_rfl
theorem F_r01_Get32_eq (E : FnA) (n n0 : Nat) (a0 a1 : AV) (bx : Bx) : evK Try.prog md0 E 17 kp_r01_Get32 n n0 c_r01_Get32 ⟨[(0, a0), (1, a1)], bx⟩ (fun s => some (.normal, s)) (fun i s => some (.exit i, s)) = F_r01_Get32 E n n0 a0 a1 bx := by kernel_rfl

theorem E_r01_Get32 (n : Nat) (a0 a1 : AV) (bx : Bx) : evFn cx0 ext0 (n + 1) 27 [a0, a1] bx = fin Try.prog [.tmp 4, .tmp 5] (F_r01_Get32 (evFn cx0 ext0 n) n bx.length a0 a1 bx) := by
  rw [evFn_eq2 (cx := cx0) (c := c_r01_Get32) rfl Try.func27 c_r01_Get32_eq (of_decide_eq_true (by kernel_rfl)) d_r01_Get32 (of_decide_eq_true (by kernel_rfl))]
  exact congrArg (fin Try.prog [.tmp 4, .tmp 5]) (F_r01_Get32_eq (evFn cx0 ext0 n) n bx.length a0 a1 bx)

/-- scupper/crc.Begin -/
def kp_crc_Begin : Option (List Nat) := some [0]
noncomputable def c_crc_Begin : Code := Try.f28.body.getD .skip
noncomputable def F_crc_Begin (_E : FnA) (_n _n0 : Nat) (bx : Bx) : Option (Ex × S) :=
  (allocA Try.prog bx 53).bind fun r1 =>
  (pv r1.2 (buildA Try.prog 53 [(0, (.v (Go.Value.int Go.IntKind.u32 4294967295)))])).bind fun r2 =>
  (stA Try.prog 53 r2.2 r1.1 r2.1).bind fun r3 =>
  some (.ret, ⟨[(0, r1.1)], r3.2⟩)
theorem c_crc_Begin_eq : Try.f28.body = some c_crc_Begin := by kernel_rfl
theorem d_crc_Begin : drawsOk Try.prog md0 c_crc_Begin = true := by kernel_rfl
theorem F_crc_Begin_eq (E : FnA) (n n0 : Nat) (bx : Bx) : evK Try.prog md0 E 2 kp_crc_Begin n n0 c_crc_Begin ⟨[], bx⟩ (fun s => some (.normal, s)) (fun i s => some (.exit i, s)) = F_crc_Begin E n n0  bx := by kernel_rfl

theorem E_crc_Begin (n : Nat) (bx : Bx) : evFn cx0 ext0 (n + 1) 28 [] bx = fin Try.prog [.cell 0 53] (F_crc_Begin (evFn cx0 ext0 n) n bx.length  bx) := by
  rw [evFn_eq2 (cx := cx0) (c := c_crc_Begin) rfl Try.func28 c_crc_Begin_eq (of_decide_eq_true (by kernel_rfl)) d_crc_Begin (of_decide_eq_true (by kernel_rfl))]
  exact congrArg (fin Try.prog [.cell 0 53]) (F_crc_Begin_eq (evFn cx0 ext0 n) n bx.length  bx)

/-- (scupper/crc.Sum).Add -/
def kp_crc_Sum_Add : Option (List Nat) := some [0, 1, 2, 4, 6, 7, 8, 9, 10]
noncomputable def c_crc_Sum_Add : Code := Try.f29.body.getD .skip
noncomputable def L_crc_Sum_Add_0 (E : FnA) (_n _n0 : Nat) (s : S) : Option (Ex × S) :=
  (pv s.bx (binA Try.prog .lss 3 (get s.env 9) (get s.env 8))).bind fun r15 =>
  condA r15.1 ((pv r15.2 (indexAddrA Try.prog 42 (get (prune kp_crc_Sum_Add s.env) 7) (get (prune kp_crc_Sum_Add s.env) 9))).bind fun r16 =>
  (pv r16.2 (loadA Try.prog 5 r16.2 r16.1)).bind fun r17 =>
  (pv r17.2 (fieldAddrA Try.prog 53 (get (prune kp_crc_Sum_Add (prune kp_crc_Sum_Add s.env)) 2) 0)).bind fun r18 =>
  (pv r18.2 (loadA Try.prog 22 r18.2 r18.1)).bind fun r19 =>
  (convA Try.prog r19.2 5 22 r17.1).bind fun r20 =>
  (pv r20.2 (binA Try.prog .xor 22 r19.1 r20.1)).bind fun r21 =>
  (callA E md0 r21.2 34 [r21.1, (.v (Go.Value.int Go.IntKind.i64 8))]).bind fun r22 =>
  (pv r22.2 (fieldAddrA Try.prog 53 (get (prune kp_crc_Sum_Add (prune kp_crc_Sum_Add s.env)) 2) 0)).bind fun r23 =>
  (stA Try.prog 22 r23.2 r23.1 r22.1).bind fun r24 =>
  (pv r24.2 (binA Try.prog .add 3 (get (prune kp_crc_Sum_Add (prune kp_crc_Sum_Add (prune kp_crc_Sum_Add s.env))) 9) (.v (Go.Value.int Go.IntKind.i64 1)))).bind fun r25 =>
  some (.normal, ⟨((9, r25.1) :: (6, r17.1) :: (10, r15.1) :: (prune kp_crc_Sum_Add (prune kp_crc_Sum_Add (prune kp_crc_Sum_Add (prune kp_crc_Sum_Add s.env))))), r25.2⟩)) (some (.exit 0, ⟨((10, r15.1) :: (prune kp_crc_Sum_Add s.env)), r15.2⟩))
noncomputable def B_crc_Sum_Add_0 (E : FnA) (_n _n0 : Nat) (x9 x8 x7 x4 x2 x0 x1 : AV) (y : Bx) : Option (Ex × S) :=
  (pv y (binA Try.prog .lss 3 x9 x8)).bind fun r4 =>
  condA r4.1 ((pv r4.2 (indexAddrA Try.prog 42 x7 x9)).bind fun r5 =>
  (pv r5.2 (loadA Try.prog 5 r5.2 r5.1)).bind fun r6 =>
  (pv r6.2 (fieldAddrA Try.prog 53 x2 0)).bind fun r7 =>
  (pv r7.2 (loadA Try.prog 22 r7.2 r7.1)).bind fun r8 =>
  (convA Try.prog r8.2 5 22 r6.1).bind fun r9 =>
  (pv r9.2 (binA Try.prog .xor 22 r8.1 r9.1)).bind fun r10 =>
  (callA E md0 r10.2 34 [r10.1, (.v (Go.Value.int Go.IntKind.i64 8))]).bind fun r11 =>
  (pv r11.2 (fieldAddrA Try.prog 53 x2 0)).bind fun r12 =>
  (stA Try.prog 22 r12.2 r12.1 r11.1).bind fun r13 =>
  (pv r13.2 (binA Try.prog .add 3 x9 (.v (Go.Value.int Go.IntKind.i64 1)))).bind fun r14 =>
  some (.normal, ⟨[(9, r14.1), (6, r6.1), (10, r4.1), (9, x9), (8, x8), (7, x7), (4, x4), (2, x2), (0, x0), (1, x1)], r14.2⟩)) (some (.exit 0, ⟨[(10, r4.1), (9, x9), (8, x8), (7, x7), (4, x4), (2, x2), (0, x0), (1, x1)], r4.2⟩))
theorem L_crc_Sum_Add_0_lit {E : FnA} {n n0 : Nat} {x9 x8 x7 x4 x2 x0 x1 : AV} {y : Bx} {Q : Ex → S → Prop} (h : Ends (B_crc_Sum_Add_0 E n n0 x9 x8 x7 x4 x2 x0 x1 y) Q) : Ends (L_crc_Sum_Add_0 E n n0 ⟨[(9, x9), (8, x8), (7, x7), (4, x4), (2, x2), (0, x0), (1, x1)], y⟩) Q := by
  rw [show L_crc_Sum_Add_0 E n n0 ⟨[(9, x9), (8, x8), (7, x7), (4, x4), (2, x2), (0, x0), (1, x1)], y⟩ = B_crc_Sum_Add_0 E n n0 x9 x8 x7 x4 x2 x0 x1 y by kernel_rfl]
  exact h
noncomputable def K_crc_Sum_Add_0 (_E : FnA) (_n _n0 : Nat) (t : S) : Option (Ex × S) :=
  (pv t.bx (fieldAddrA Try.prog 53 (get t.env 2) 1)).bind fun r34 =>
  (pv r34.2 (loadA Try.prog 3 r34.2 r34.1)).bind fun r35 =>
  (pv r35.2 (lenA Try.prog 42 (get t.env 1))).bind fun r36 =>
  (pv r36.2 (binA Try.prog .add 3 r35.1 r36.1)).bind fun r37 =>
  (pv r37.2 (fieldAddrA Try.prog 53 (get t.env 2) 1)).bind fun r38 =>
  (stA Try.prog 3 r38.2 r38.1 r37.1).bind fun r39 =>
  (pv r39.2 (loadA Try.prog 53 r39.2 (get (prune kp_crc_Sum_Add t.env) 2))).bind fun r40 =>
  (stA Try.prog 53 r40.2 (get (prune kp_crc_Sum_Add t.env) 4) r40.1).bind fun r41 =>
  some (.ret, ⟨(prune kp_crc_Sum_Add (prune kp_crc_Sum_Add t.env)), r41.2⟩)
noncomputable def X_crc_Sum_Add_0 (_E : FnA) (_n _n0 : Nat) (i : Nat) (t : S) : Option (Ex × S) :=
  if i = 0 then (pv t.bx (fieldAddrA Try.prog 53 (get t.env 2) 1)).bind fun r26 =>
  (pv r26.2 (loadA Try.prog 3 r26.2 r26.1)).bind fun r27 =>
  (pv r27.2 (lenA Try.prog 42 (get t.env 1))).bind fun r28 =>
  (pv r28.2 (binA Try.prog .add 3 r27.1 r28.1)).bind fun r29 =>
  (pv r29.2 (fieldAddrA Try.prog 53 (get t.env 2) 1)).bind fun r30 =>
  (stA Try.prog 3 r30.2 r30.1 r29.1).bind fun r31 =>
  (pv r31.2 (loadA Try.prog 53 r31.2 (get (prune kp_crc_Sum_Add t.env) 2))).bind fun r32 =>
  (stA Try.prog 53 r32.2 (get (prune kp_crc_Sum_Add t.env) 4) r32.1).bind fun r33 =>
  some (.ret, ⟨(prune kp_crc_Sum_Add (prune kp_crc_Sum_Add t.env)), r33.2⟩) else some (.exit i, ⟨t.env, t.bx⟩)
noncomputable def X_crc_Sum_Add_0_0 (_E : FnA) (_n _n0 : Nat) (x10 x9 x8 x7 x4 x2 x0 x1 : AV) (y : Bx) : Option (Ex × S) :=
  (pv y (fieldAddrA Try.prog 53 x2 1)).bind fun r42 =>
  (pv r42.2 (loadA Try.prog 3 r42.2 r42.1)).bind fun r43 =>
  (pv r43.2 (lenA Try.prog 42 x1)).bind fun r44 =>
  (pv r44.2 (binA Try.prog .add 3 r43.1 r44.1)).bind fun r45 =>
  (pv r45.2 (fieldAddrA Try.prog 53 x2 1)).bind fun r46 =>
  (stA Try.prog 3 r46.2 r46.1 r45.1).bind fun r47 =>
  (pv r47.2 (loadA Try.prog 53 r47.2 x2)).bind fun r48 =>
  (stA Try.prog 53 r48.2 x4 r48.1).bind fun r49 =>
  some (.ret, ⟨[(10, x10), (9, x9), (8, x8), (7, x7), (4, x4), (2, x2), (0, x0), (1, x1)], r49.2⟩)
theorem X_crc_Sum_Add_0_0_lit {E : FnA} {n n0 : Nat} {x10 x9 x8 x7 x4 x2 x0 x1 : AV} {y : Bx} {Q : Ex → S → Prop} (h : Ends (X_crc_Sum_Add_0_0 E n n0 x10 x9 x8 x7 x4 x2 x0 x1 y) Q) : Ends (X_crc_Sum_Add_0 E n n0 0 ⟨[(10, x10), (9, x9), (8, x8), (7, x7), (4, x4), (2, x2), (0, x0), (1, x1)], y⟩) Q := by
  rw [show X_crc_Sum_Add_0 E n n0 0 ⟨[(10, x10), (9, x9), (8, x8), (7, x7), (4, x4), (2, x2), (0, x0), (1, x1)], y⟩ = X_crc_Sum_Add_0_0 E n n0 x10 x9 x8 x7 x4 x2 x0 x1 y by kernel_rfl]
  exact h
noncomputable def F_crc_Sum_Add (E : FnA) (n n0 : Nat) (a0 a1 : AV) (bx : Bx) : Option (Ex × S) :=
  (boxA bx a0).bind fun r1 =>
  (allocA Try.prog r1.2 53).bind fun r2 =>
  (pv r2.2 (lenA Try.prog 42 a1)).bind fun r3 =>
  exitA (iter ⟨[(9, (.v (Go.Value.int Go.IntKind.i64 0))), (8, r3.1), (7, a1), (4, r2.1), (2, r1.1), (0, a0), (1, a1)], r3.2⟩ (L_crc_Sum_Add_0 E n n0) n ⟨[(9, (.v (Go.Value.int Go.IntKind.i64 0))), (8, r3.1), (7, a1), (4, r2.1), (2, r1.1), (0, a0), (1, a1)], r3.2⟩) (K_crc_Sum_Add_0 E n n0) (X_crc_Sum_Add_0 E n n0)
theorem c_crc_Sum_Add_eq : Try.f29.body = some c_crc_Sum_Add := by kernel_rfl
theorem d_crc_Sum_Add : drawsOk Try.prog md0 c_crc_Sum_Add = true := by kernel_rfl
theorem F_crc_Sum_Add_eq (E : FnA) (n n0 : Nat) (a0 a1 : AV) (bx : Bx) : evK Try.prog md0 E 28 kp_crc_Sum_Add n n0 c_crc_Sum_Add ⟨[(0, a0), (1, a1)], bx⟩ (fun s => some (.normal, s)) (fun i s => some (.exit i, s)) = F_crc_Sum_Add E n n0 a0 a1 bx := by kernel_rfl

theorem E_crc_Sum_Add (n : Nat) (a0 a1 : AV) (bx : Bx) : evFn cx0 ext0 (n + 1) 29 [a0, a1] bx = fin Try.prog [.cell 4 53] (F_crc_Sum_Add (evFn cx0 ext0 n) n bx.length a0 a1 bx) := by
  rw [evFn_eq2 (cx := cx0) (c := c_crc_Sum_Add) rfl Try.func29 c_crc_Sum_Add_eq (of_decide_eq_true (by kernel_rfl)) d_crc_Sum_Add (of_decide_eq_true (by kernel_rfl))]
  exact congrArg (fin Try.prog [.cell 4 53]) (F_crc_Sum_Add_eq (evFn cx0 ext0 n) n bx.length a0 a1 bx)

/-- (scupper/crc.Sum).Value -/
def kp_crc_Sum_Value : Option (List Nat) := some [0, 1, 2]
noncomputable def c_crc_Sum_Value : Code := Try.f30.body.getD .skip
noncomputable def F_crc_Sum_Value (_E : FnA) (_n _n0 : Nat) (a0 : AV) (bx : Bx) : Option (Ex × S) :=
  (boxA bx a0).bind fun r1 =>
  (pv r1.2 (fieldAddrA Try.prog 53 r1.1 0)).bind fun r2 =>
  (pv r2.2 (loadA Try.prog 22 r2.2 r2.1)).bind fun r3 =>
  (pv r3.2 (unA .xor r3.1)).bind fun r4 =>
  some (.ret, ⟨[(2, r4.1), (2, (.v (Go.Value.int Go.IntKind.u32 0))), (1, r1.1), (0, a0)], r4.2⟩)
theorem c_crc_Sum_Value_eq : Try.f30.body = some c_crc_Sum_Value := by kernel_rfl
theorem d_crc_Sum_Value : drawsOk Try.prog md0 c_crc_Sum_Value = true := by kernel_rfl
theorem F_crc_Sum_Value_eq (E : FnA) (n n0 : Nat) (a0 : AV) (bx : Bx) : evK Try.prog md0 E 6 kp_crc_Sum_Value n n0 c_crc_Sum_Value ⟨[(0, a0)], bx⟩ (fun s => some (.normal, s)) (fun i s => some (.exit i, s)) = F_crc_Sum_Value E n n0 a0 bx := by kernel_rfl

theorem E_crc_Sum_Value (n : Nat) (a0 : AV) (bx : Bx) : evFn cx0 ext0 (n + 1) 30 [a0] bx = fin Try.prog [.tmp 2] (F_crc_Sum_Value (evFn cx0 ext0 n) n bx.length a0 bx) := by
  rw [evFn_eq2 (cx := cx0) (c := c_crc_Sum_Value) rfl Try.func30 c_crc_Sum_Value_eq (of_decide_eq_true (by kernel_rfl)) d_crc_Sum_Value (of_decide_eq_true (by kernel_rfl))]
  exact congrArg (fin Try.prog [.tmp 2]) (F_crc_Sum_Value_eq (evFn cx0 ext0 n) n bx.length a0 bx)

/-- scupper/scupperref02.Add -/
def kp_r02_Add : Option (List Nat) := some [0, 1, 4, 5, 9]
noncomputable def c_r02_Add : Code := Try.f31.body.getD .skip
noncomputable def L_r02_Add_0 (E : FnA) (_n _n0 : Nat) (s : S) : Option (Ex × S) :=
  (pv s.bx (lenA Try.prog 42 (get s.env 1))).bind fun r9 =>
  (pv r9.2 (binA Try.prog .lss 3 (get s.env 5) r9.1)).bind fun r10 =>
  condA r10.1 ((pv r10.2 (indexAddrA Try.prog 42 (get (prune kp_r02_Add s.env) 1) (get (prune kp_r02_Add s.env) 5))).bind fun r11 =>
  (pv r11.2 (loadA Try.prog 5 r11.2 r11.1)).bind fun r12 =>
  (convA Try.prog r12.2 5 22 r12.1).bind fun r13 =>
  (pv r13.2 (binA Try.prog .xor 22 (get (prune kp_r02_Add s.env) 0) r13.1)).bind fun r14 =>
  (callA E md0 r14.2 35 [r14.1, (.v (Go.Value.int Go.IntKind.i64 8))]).bind fun r15 =>
  (pv r15.2 (binA Try.prog .add 3 (get (prune kp_r02_Add (prune kp_r02_Add s.env)) 5) (.v (Go.Value.int Go.IntKind.i64 1)))).bind fun r16 =>
  some (.normal, ⟨((5, r16.1) :: (0, r15.1) :: (9, r10.1) :: (prune kp_r02_Add (prune kp_r02_Add (prune kp_r02_Add s.env)))), r16.2⟩)) (some (.exit 0, ⟨((9, r10.1) :: (prune kp_r02_Add s.env)), r10.2⟩))
noncomputable def B_r02_Add_0 (E : FnA) (_n _n0 : Nat) (x5 x4 x0 x1 : AV) (y : Bx) : Option (Ex × S) :=
  (pv y (lenA Try.prog 42 x1)).bind fun r1 =>
  (pv r1.2 (binA Try.prog .lss 3 x5 r1.1)).bind fun r2 =>
  condA r2.1 ((pv r2.2 (indexAddrA Try.prog 42 x1 x5)).bind fun r3 =>
  (pv r3.2 (loadA Try.prog 5 r3.2 r3.1)).bind fun r4 =>
  (convA Try.prog r4.2 5 22 r4.1).bind fun r5 =>
  (pv r5.2 (binA Try.prog .xor 22 x0 r5.1)).bind fun r6 =>
  (callA E md0 r6.2 35 [r6.1, (.v (Go.Value.int Go.IntKind.i64 8))]).bind fun r7 =>
  (pv r7.2 (binA Try.prog .add 3 x5 (.v (Go.Value.int Go.IntKind.i64 1)))).bind fun r8 =>
  some (.normal, ⟨[(5, r8.1), (0, r7.1), (9, r2.1), (5, x5), (4, x4), (0, x0), (1, x1)], r8.2⟩)) (some (.exit 0, ⟨[(9, r2.1), (5, x5), (4, x4), (0, x0), (1, x1)], r2.2⟩))
theorem L_r02_Add_0_lit {E : FnA} {n n0 : Nat} {x5 x4 x0 x1 : AV} {y : Bx} {Q : Ex → S → Prop} (h : Ends (B_r02_Add_0 E n n0 x5 x4 x0 x1 y) Q) : Ends (L_r02_Add_0 E n n0 ⟨[(5, x5), (4, x4), (0, x0), (1, x1)], y⟩) Q := by
  rw [show L_r02_Add_0 E n n0 ⟨[(5, x5), (4, x4), (0, x0), (1, x1)], y⟩ = B_r02_Add_0 E n n0 x5 x4 x0 x1 y by kernel_rfl]
  exact h
noncomputable def K_r02_Add_0 (_E : FnA) (_n _n0 : Nat) (t : S) : Option (Ex × S) :=
  some (.ret, ⟨((4, (get t.env 0)) :: (prune kp_r02_Add t.env)), t.bx⟩)
noncomputable def X_r02_Add_0 (_E : FnA) (_n _n0 : Nat) (i : Nat) (t : S) : Option (Ex × S) :=
  if i = 0 then some (.ret, ⟨((4, (get t.env 0)) :: (prune kp_r02_Add t.env)), t.bx⟩) else some (.exit i, ⟨t.env, t.bx⟩)
noncomputable def X_r02_Add_0_0 (_E : FnA) (_n _n0 : Nat) (x9 x5 x4 x0 x1 : AV) (y : Bx) : Option (Ex × S) :=
  some (.ret, ⟨[(4, x0), (9, x9), (5, x5), (4, x4), (0, x0), (1, x1)], y⟩)
theorem X_r02_Add_0_0_lit {E : FnA} {n n0 : Nat} {x9 x5 x4 x0 x1 : AV} {y : Bx} {Q : Ex → S → Prop} (h : Ends (X_r02_Add_0_0 E n n0 x9 x5 x4 x0 x1 y) Q) : Ends (X_r02_Add_0 E n n0 0 ⟨[(9, x9), (5, x5), (4, x4), (0, x0), (1, x1)], y⟩) Q := by
  rw [show X_r02_Add_0 E n n0 0 ⟨[(9, x9), (5, x5), (4, x4), (0, x0), (1, x1)], y⟩ = X_r02_Add_0_0 E n n0 x9 x5 x4 x0 x1 y by kernel_rfl]
  exact h
noncomputable def F_r02_Add (E : FnA) (n n0 : Nat) (a0 a1 : AV) (bx : Bx) : Option (Ex × S) :=
  exitA (iter ⟨[(5, (.v (Go.Value.int Go.IntKind.i64 0))), (4, (.v (Go.Value.int Go.IntKind.u32 0))), (0, a0), (1, a1)], bx⟩ (L_r02_Add_0 E n n0) n ⟨[(5, (.v (Go.Value.int Go.IntKind.i64 0))), (4, (.v (Go.Value.int Go.IntKind.u32 0))), (0, a0), (1, a1)], bx⟩) (K_r02_Add_0 E n n0) (X_r02_Add_0 E n n0)
theorem c_r02_Add_eq : Try.f31.body = some c_r02_Add := by kernel_rfl
theorem d_r02_Add : drawsOk Try.prog md0 c_r02_Add = true := by kernel_rfl
theorem F_r02_Add_eq (E : FnA) (n n0 : Nat) (a0 a1 : AV) (bx : Bx) : evK Try.prog md0 E 21 kp_r02_Add n n0 c_r02_Add ⟨[(0, a0), (1, a1)], bx⟩ (fun s => some (.normal, s)) (fun i s => some (.exit i, s)) = F_r02_Add E n n0 a0 a1 bx := by kernel_rfl

theorem E_r02_Add (n : Nat) (a0 a1 : AV) (bx : Bx) : evFn cx0 ext0 (n + 1) 31 [a0, a1] bx = fin Try.prog [.tmp 4] (F_r02_Add (evFn cx0 ext0 n) n bx.length a0 a1 bx) := by
  rw [evFn_eq2 (cx := cx0) (c := c_r02_Add) rfl Try.func31 c_r02_Add_eq (of_decide_eq_true (by kernel_rfl)) d_r02_Add (of_decide_eq_true (by kernel_rfl))]
  exact congrArg (fin Try.prog [.tmp 4]) (F_r02_Add_eq (evFn cx0 ext0 n) n bx.length a0 a1 bx)

/-- scupper/num.Get32 -/
def kp_num_Get32 : Option (List Nat) := some [0, 1, 4, 5]
noncomputable def c_num_Get32 : Code := Try.f32.body.getD .skip
noncomputable def F_num_Get32 (E : FnA) (_n _n0 : Nat) (a0 a1 : AV) (bx : Bx) : Option (Ex × S) :=
  (callA E md0 bx 36 [a0, a1, (.v (Go.Value.int Go.IntKind.i64 4))]).bind fun r1 =>
  (pv r1.2 (tupA r1.1 0)).bind fun r2 =>
  (pv r2.2 (tupA r1.1 1)).bind fun r3 =>
  some (.ret, ⟨[(5, r3.1), (4, r2.1), (5, (.v (Go.Value.int Go.IntKind.i64 0))), (4, (.v (Go.Value.int Go.IntKind.u32 0))), (0, a0), (1, a1)], r3.2⟩)
theorem c_num_Get32_eq : Try.f32.body = some c_num_Get32 := by kernel_rfl
theorem d_num_Get32 : drawsOk Try.prog md0 c_num_Get32 = true := by kernel_rfl
theorem F_num_Get32_eq (E : FnA) (n n0 : Nat) (a0 a1 : AV) (bx : Bx) : evK Try.prog md0 E 11 kp_num_Get32 n n0 c_num_Get32 ⟨[(0, a0), (1, a1)], bx⟩ (fun s => some (.normal, s)) (fun i s => some (.exit i, s)) = F_num_Get32 E n n0 a0 a1 bx := by kernel_rfl

theorem E_num_Get32 (n : Nat) (a0 a1 : AV) (bx : Bx) : evFn cx0 ext0 (n + 1) 32 [a0, a1] bx = fin Try.prog [.tmp 4, .tmp 5] (F_num_Get32 (evFn cx0 ext0 n) n bx.length a0 a1 bx) := by
  rw [evFn_eq2 (cx := cx0) (c := c_num_Get32) rfl Try.func32 c_num_Get32_eq (of_decide_eq_true (by kernel_rfl)) d_num_Get32 (of_decide_eq_true (by kernel_rfl))]
  exact congrArg (fin Try.prog [.tmp 4, .tmp 5]) (F_num_Get32_eq (evFn cx0 ext0 n) n bx.length a0 a1 bx)

/-- scupper/scupperref01.number -/
def kp_r01_number : Option (List Nat) := some [0, 1, 2, 6, 7, 8, 9, 25, 29]
noncomputable def c_r01_number : Code := Try.f33.body.getD .skip
noncomputable def L_r01_number_0 (_E : FnA) (_n _n0 : Nat) (s : S) : Option (Ex × S) :=
  (pv s.bx (binA Try.prog .geq 3 (get s.env 9) (.v (Go.Value.int Go.IntKind.i64 0)))).bind fun r23 =>
  condA r23.1 ((pv r23.2 (binA Try.prog .mul 58 (.v (Go.Value.int Go.IntKind.u64 256)) (get (prune kp_r01_number s.env) 8))).bind fun r24 =>
  (pv r24.2 (binA Try.prog .add 3 (get (prune kp_r01_number s.env) 1) (get (prune kp_r01_number s.env) 9))).bind fun r25 =>
  (pv r25.2 (indexAddrA Try.prog 42 (get (prune kp_r01_number s.env) 0) r25.1)).bind fun r26 =>
  (pv r26.2 (loadA Try.prog 5 r26.2 r26.1)).bind fun r27 =>
  (convA Try.prog r27.2 5 58 r27.1).bind fun r28 =>
  (pv r28.2 (binA Try.prog .add 58 r24.1 r28.1)).bind fun r29 =>
  (pv r29.2 (binA Try.prog .sub 3 (get (prune kp_r01_number (prune kp_r01_number s.env)) 9) (.v (Go.Value.int Go.IntKind.i64 1)))).bind fun r30 =>
  some (.normal, ⟨((9, r30.1) :: (8, r29.1) :: (29, r23.1) :: (prune kp_r01_number (prune kp_r01_number (prune kp_r01_number s.env)))), r30.2⟩)) (some (.exit 0, ⟨((29, r23.1) :: (prune kp_r01_number s.env)), r23.2⟩))
noncomputable def B_r01_number_0 (_E : FnA) (_n _n0 : Nat) (x9 x8 x25 x7 x6 x0 x1 x2 : AV) (y : Bx) : Option (Ex × S) :=
  (pv y (binA Try.prog .geq 3 x9 (.v (Go.Value.int Go.IntKind.i64 0)))).bind fun r15 =>
  condA r15.1 ((pv r15.2 (binA Try.prog .mul 58 (.v (Go.Value.int Go.IntKind.u64 256)) x8)).bind fun r16 =>
  (pv r16.2 (binA Try.prog .add 3 x1 x9)).bind fun r17 =>
  (pv r17.2 (indexAddrA Try.prog 42 x0 r17.1)).bind fun r18 =>
  (pv r18.2 (loadA Try.prog 5 r18.2 r18.1)).bind fun r19 =>
  (convA Try.prog r19.2 5 58 r19.1).bind fun r20 =>
  (pv r20.2 (binA Try.prog .add 58 r16.1 r20.1)).bind fun r21 =>
  (pv r21.2 (binA Try.prog .sub 3 x9 (.v (Go.Value.int Go.IntKind.i64 1)))).bind fun r22 =>
  some (.normal, ⟨[(9, r22.1), (8, r21.1), (29, r15.1), (9, x9), (8, x8), (25, x25), (7, x7), (6, x6), (0, x0), (1, x1), (2, x2)], r22.2⟩)) (some (.exit 0, ⟨[(29, r15.1), (9, x9), (8, x8), (25, x25), (7, x7), (6, x6), (0, x0), (1, x1), (2, x2)], r15.2⟩))
theorem L_r01_number_0_lit {E : FnA} {n n0 : Nat} {x9 x8 x25 x7 x6 x0 x1 x2 : AV} {y : Bx} {Q : Ex → S → Prop} (h : Ends (B_r01_number_0 E n n0 x9 x8 x25 x7 x6 x0 x1 x2 y) Q) : Ends (L_r01_number_0 E n n0 ⟨[(9, x9), (8, x8), (25, x25), (7, x7), (6, x6), (0, x0), (1, x1), (2, x2)], y⟩) Q := by
  rw [show L_r01_number_0 E n n0 ⟨[(9, x9), (8, x8), (25, x25), (7, x7), (6, x6), (0, x0), (1, x1), (2, x2)], y⟩ = B_r01_number_0 E n n0 x9 x8 x25 x7 x6 x0 x1 x2 y by kernel_rfl]
  exact h
noncomputable def K_r01_number_0 (_E : FnA) (_n _n0 : Nat) (t : S) : Option (Ex × S) :=
  some (.ret, ⟨((7, (.v (Go.Value.int Go.IntKind.i64 0))) :: (6, (get t.env 8)) :: (prune kp_r01_number t.env)), t.bx⟩)
noncomputable def X_r01_number_0 (_E : FnA) (_n _n0 : Nat) (i : Nat) (t : S) : Option (Ex × S) :=
  if i = 0 then some (.ret, ⟨((7, (.v (Go.Value.int Go.IntKind.i64 0))) :: (6, (get t.env 8)) :: (prune kp_r01_number t.env)), t.bx⟩) else some (.exit i, ⟨t.env, t.bx⟩)
noncomputable def X_r01_number_0_0 (_E : FnA) (_n _n0 : Nat) (x29 x9 x8 x25 x7 x6 x0 x1 x2 : AV) (y : Bx) : Option (Ex × S) :=
  some (.ret, ⟨[(7, (.v (Go.Value.int Go.IntKind.i64 0))), (6, x8), (29, x29), (9, x9), (8, x8), (25, x25), (7, x7), (6, x6), (0, x0), (1, x1), (2, x2)], y⟩)
theorem X_r01_number_0_0_lit {E : FnA} {n n0 : Nat} {x29 x9 x8 x25 x7 x6 x0 x1 x2 : AV} {y : Bx} {Q : Ex → S → Prop} (h : Ends (X_r01_number_0_0 E n n0 x29 x9 x8 x25 x7 x6 x0 x1 x2 y) Q) : Ends (X_r01_number_0 E n n0 0 ⟨[(29, x29), (9, x9), (8, x8), (25, x25), (7, x7), (6, x6), (0, x0), (1, x1), (2, x2)], y⟩) Q := by
  rw [show X_r01_number_0 E n n0 0 ⟨[(29, x29), (9, x9), (8, x8), (25, x25), (7, x7), (6, x6), (0, x0), (1, x1), (2, x2)], y⟩ = X_r01_number_0_0 E n n0 x29 x9 x8 x25 x7 x6 x0 x1 x2 y by kernel_rfl]
  exact h
noncomputable def F_r01_number (E : FnA) (n n0 : Nat) (a0 a1 a2 : AV) (bx : Bx) : Option (Ex × S) :=
  (pv bx (binA Try.prog .lss 3 a1 (.v (Go.Value.int Go.IntKind.i64 0)))).bind fun r1 =>
  (gsel false r1.2 (some (a1, r1.2)) r1.1).bind fun r2 =>
  (gsel false r2.2 (some (a0, r2.2)) r1.1).bind fun r3 =>
  (gsel false r3.2 (pv r3.2 (lenA Try.prog 42 r3.1)) r1.1).bind fun r4 =>
  (gsel false r4.2 (pv r4.2 (binA Try.prog .gtr 3 r2.1 r4.1)) r1.1).bind fun r5 =>
  (pv r5.2 (pickA r1.1 (.v (Go.Value.bool true)) r5.1)).bind fun r6 =>
  (gsel false r6.2 (some (a0, r6.2)) r6.1).bind fun r7 =>
  (gsel false r7.2 (pv r7.2 (lenA Try.prog 42 r7.1)) r6.1).bind fun r8 =>
  (gsel false r8.2 (some (a1, r8.2)) r6.1).bind fun r9 =>
  (gsel false r9.2 (pv r9.2 (binA Try.prog .sub 3 r8.1 r9.1)) r6.1).bind fun r10 =>
  (gsel false r10.2 (some (a2, r10.2)) r6.1).bind fun r11 =>
  (gsel false r11.2 (pv r11.2 (binA Try.prog .lss 3 r10.1 r11.1)) r6.1).bind fun r12 =>
  (pv r12.2 (pickA r6.1 (.v (Go.Value.bool true)) r12.1)).bind fun r13 =>
  condA r13.1 (some (.ret, ⟨[(7, (.v (Go.Value.int Go.IntKind.i64 7))), (6, (.v (Go.Value.int Go.IntKind.u64 0))), (25, r13.1), (7, (.v (Go.Value.int Go.IntKind.i64 0))), (6, (.v (Go.Value.int Go.IntKind.u64 0))), (0, a0), (1, a1), (2, a2)], r13.2⟩)) ((pv r13.2 (binA Try.prog .sub 3 a2 (.v (Go.Value.int Go.IntKind.i64 1)))).bind fun r14 =>
  exitA (iter ⟨[(9, r14.1), (8, (.v (Go.Value.int Go.IntKind.u64 0))), (25, r13.1), (7, (.v (Go.Value.int Go.IntKind.i64 0))), (6, (.v (Go.Value.int Go.IntKind.u64 0))), (0, a0), (1, a1), (2, a2)], r14.2⟩ (L_r01_number_0 E n n0) n ⟨[(9, r14.1), (8, (.v (Go.Value.int Go.IntKind.u64 0))), (25, r13.1), (7, (.v (Go.Value.int Go.IntKind.i64 0))), (6, (.v (Go.Value.int Go.IntKind.u64 0))), (0, a0), (1, a1), (2, a2)], r14.2⟩) (K_r01_number_0 E n n0) (X_r01_number_0 E n n0))
theorem c_r01_number_eq : Try.f33.body = some c_r01_number := by kernel_rfl
theorem d_r01_number : drawsOk Try.prog md0 c_r01_number = true := by kernel_rfl
theorem F_r01_number_eq (E : FnA) (n n0 : Nat) (a0 a1 a2 : AV) (bx : Bx) : evK Try.prog md0 E 43 kp_r01_number n n0 c_r01_number ⟨[(0, a0), (1, a1), (2, a2)], bx⟩ (fun s => some (.normal, s)) (fun i s => some (.exit i, s)) = F_r01_number E n n0 a0 a1 a2 bx := by kernel_rfl

theorem E_r01_number (n : Nat) (a0 a1 a2 : AV) (bx : Bx) : evFn cx0 ext0 (n + 1) 33 [a0, a1, a2] bx = fin Try.prog [.tmp 6, .tmp 7] (F_r01_number (evFn cx0 ext0 n) n bx.length a0 a1 a2 bx) := by
  rw [evFn_eq2 (cx := cx0) (c := c_r01_number) rfl Try.func33 c_r01_number_eq (of_decide_eq_true (by kernel_rfl)) d_r01_number (of_decide_eq_true (by kernel_rfl))]
  exact congrArg (fin Try.prog [.tmp 6, .tmp 7]) (F_r01_number_eq (evFn cx0 ext0 n) n bx.length a0 a1 a2 bx)

/-- scupper/crc.stepped -/
def kp_crc_stepped : Option (List Nat) := some [0, 1, 4, 5, 6, 7, 8]
noncomputable def c_crc_stepped : Code := Try.f34.body.getD .skip
noncomputable def L_crc_stepped_0 (_E : FnA) (_n _n0 : Nat) (s : S) : Option (Ex × S) :=
  (pv s.bx (binA Try.prog .lss 3 (get s.env 7) (get s.env 6))).bind fun r8 =>
  condA r8.1 ((pv r8.2 (binA Try.prog .and 22 (get (prune kp_crc_stepped s.env) 0) (.v (Go.Value.int Go.IntKind.u32 1)))).bind fun r9 =>
  (pv r9.2 (unA .neg r9.1)).bind fun r10 =>
  (pv r10.2 (binA Try.prog .shr 22 (get (prune kp_crc_stepped (prune kp_crc_stepped s.env)) 0) (.v (Go.Value.int Go.IntKind.u64 1)))).bind fun r11 =>
  (pv r11.2 (binA Try.prog .and 22 (.v (Go.Value.int Go.IntKind.u32 2197175160)) r10.1)).bind fun r12 =>
  (pv r12.2 (binA Try.prog .xor 22 r11.1 r12.1)).bind fun r13 =>
  (pv r13.2 (binA Try.prog .add 3 (get (prune kp_crc_stepped (prune kp_crc_stepped (prune kp_crc_stepped s.env))) 7) (.v (Go.Value.int Go.IntKind.i64 1)))).bind fun r14 =>
  some (.normal, ⟨((7, r14.1) :: (0, r13.1) :: (5, r10.1) :: (8, r8.1) :: (prune kp_crc_stepped (prune kp_crc_stepped (prune kp_crc_stepped (prune kp_crc_stepped s.env))))), r14.2⟩)) (some (.exit 0, ⟨((8, r8.1) :: (prune kp_crc_stepped s.env)), r8.2⟩))
noncomputable def B_crc_stepped_0 (_E : FnA) (_n _n0 : Nat) (x7 x6 x4 x0 x1 : AV) (y : Bx) : Option (Ex × S) :=
  (pv y (binA Try.prog .lss 3 x7 x6)).bind fun r1 =>
  condA r1.1 ((pv r1.2 (binA Try.prog .and 22 x0 (.v (Go.Value.int Go.IntKind.u32 1)))).bind fun r2 =>
  (pv r2.2 (unA .neg r2.1)).bind fun r3 =>
  (pv r3.2 (binA Try.prog .shr 22 x0 (.v (Go.Value.int Go.IntKind.u64 1)))).bind fun r4 =>
  (pv r4.2 (binA Try.prog .and 22 (.v (Go.Value.int Go.IntKind.u32 2197175160)) r3.1)).bind fun r5 =>
  (pv r5.2 (binA Try.prog .xor 22 r4.1 r5.1)).bind fun r6 =>
  (pv r6.2 (binA Try.prog .add 3 x7 (.v (Go.Value.int Go.IntKind.i64 1)))).bind fun r7 =>
  some (.normal, ⟨[(7, r7.1), (0, r6.1), (5, r3.1), (8, r1.1), (7, x7), (6, x6), (4, x4), (0, x0), (1, x1)], r7.2⟩)) (some (.exit 0, ⟨[(8, r1.1), (7, x7), (6, x6), (4, x4), (0, x0), (1, x1)], r1.2⟩))
theorem L_crc_stepped_0_lit {E : FnA} {n n0 : Nat} {x7 x6 x4 x0 x1 : AV} {y : Bx} {Q : Ex → S → Prop} (h : Ends (B_crc_stepped_0 E n n0 x7 x6 x4 x0 x1 y) Q) : Ends (L_crc_stepped_0 E n n0 ⟨[(7, x7), (6, x6), (4, x4), (0, x0), (1, x1)], y⟩) Q := by
  rw [show L_crc_stepped_0 E n n0 ⟨[(7, x7), (6, x6), (4, x4), (0, x0), (1, x1)], y⟩ = B_crc_stepped_0 E n n0 x7 x6 x4 x0 x1 y by kernel_rfl]
  exact h
noncomputable def K_crc_stepped_0 (_E : FnA) (_n _n0 : Nat) (t : S) : Option (Ex × S) :=
  some (.ret, ⟨((4, (get t.env 0)) :: (prune kp_crc_stepped t.env)), t.bx⟩)
noncomputable def X_crc_stepped_0 (_E : FnA) (_n _n0 : Nat) (i : Nat) (t : S) : Option (Ex × S) :=
  if i = 0 then some (.ret, ⟨((4, (get t.env 0)) :: (prune kp_crc_stepped t.env)), t.bx⟩) else some (.exit i, ⟨t.env, t.bx⟩)
noncomputable def X_crc_stepped_0_0 (_E : FnA) (_n _n0 : Nat) (x8 x7 x6 x4 x0 x1 : AV) (y : Bx) : Option (Ex × S) :=
  some (.ret, ⟨[(4, x0), (8, x8), (7, x7), (6, x6), (4, x4), (0, x0), (1, x1)], y⟩)
theorem X_crc_stepped_0_0_lit {E : FnA} {n n0 : Nat} {x8 x7 x6 x4 x0 x1 : AV} {y : Bx} {Q : Ex → S → Prop} (h : Ends (X_crc_stepped_0_0 E n n0 x8 x7 x6 x4 x0 x1 y) Q) : Ends (X_crc_stepped_0 E n n0 0 ⟨[(8, x8), (7, x7), (6, x6), (4, x4), (0, x0), (1, x1)], y⟩) Q := by
  rw [show X_crc_stepped_0 E n n0 0 ⟨[(8, x8), (7, x7), (6, x6), (4, x4), (0, x0), (1, x1)], y⟩ = X_crc_stepped_0_0 E n n0 x8 x7 x6 x4 x0 x1 y by kernel_rfl]
  exact h
noncomputable def F_crc_stepped (E : FnA) (n n0 : Nat) (a0 a1 : AV) (bx : Bx) : Option (Ex × S) :=
  exitA (iter ⟨[(7, (.v (Go.Value.int Go.IntKind.i64 0))), (6, a1), (4, (.v (Go.Value.int Go.IntKind.u32 0))), (0, a0), (1, a1)], bx⟩ (L_crc_stepped_0 E n n0) n ⟨[(7, (.v (Go.Value.int Go.IntKind.i64 0))), (6, a1), (4, (.v (Go.Value.int Go.IntKind.u32 0))), (0, a0), (1, a1)], bx⟩) (K_crc_stepped_0 E n n0) (X_crc_stepped_0 E n n0)
theorem c_crc_stepped_eq : Try.f34.body = some c_crc_stepped := by kernel_rfl
theorem d_crc_stepped : drawsOk Try.prog md0 c_crc_stepped = true := by kernel_rfl
theorem F_crc_stepped_eq (E : FnA) (n n0 : Nat) (a0 a1 : AV) (bx : Bx) : evK Try.prog md0 E 19 kp_crc_stepped n n0 c_crc_stepped ⟨[(0, a0), (1, a1)], bx⟩ (fun s => some (.normal, s)) (fun i s => some (.exit i, s)) = F_crc_stepped E n n0 a0 a1 bx := by kernel_rfl

theorem E_crc_stepped (n : Nat) (a0 a1 : AV) (bx : Bx) : evFn cx0 ext0 (n + 1) 34 [a0, a1] bx = fin Try.prog [.tmp 4] (F_crc_stepped (evFn cx0 ext0 n) n bx.length a0 a1 bx) := by
  rw [evFn_eq2 (cx := cx0) (c := c_crc_stepped) rfl Try.func34 c_crc_stepped_eq (of_decide_eq_true (by kernel_rfl)) d_crc_stepped (of_decide_eq_true (by kernel_rfl))]
  exact congrArg (fin Try.prog [.tmp 4]) (F_crc_stepped_eq (evFn cx0 ext0 n) n bx.length a0 a1 bx)

/-- scupper/scupperref02.step -/
def kp_r02_step : Option (List Nat) := some [0, 1, 4, 5, 6, 9, 17]
noncomputable def c_r02_step : Code := Try.f35.body.getD .skip
noncomputable def L_r02_step_0 (_E : FnA) (_n _n0 : Nat) (s : S) : Option (Ex × S) :=
  (pv s.bx (binA Try.prog .lss 3 (get s.env 5) (get s.env 1))).bind fun r8 =>
  condA r8.1 ((pv r8.2 (binA Try.prog .rem 22 (get (prune kp_r02_step s.env) 0) (.v (Go.Value.int Go.IntKind.u32 2)))).bind fun r9 =>
  (pv r9.2 (binA Try.prog .quo 22 (get (prune kp_r02_step (prune kp_r02_step s.env)) 0) (.v (Go.Value.int Go.IntKind.u32 2)))).bind fun r10 =>
  (pv r10.2 (binA Try.prog .eql 22 r9.1 (.v (Go.Value.int Go.IntKind.u32 1)))).bind fun r11 =>
  condA r11.1 ((pv r11.2 (binA Try.prog .xor 22 r10.1 (.v (Go.Value.int Go.IntKind.u32 2197175160)))).bind fun r12 =>
  (pv r12.2 (binA Try.prog .add 3 (get (prune kp_r02_step (prune kp_r02_step (prune kp_r02_step (prune kp_r02_step (prune kp_r02_step s.env))))) 5) (.v (Go.Value.int Go.IntKind.i64 1)))).bind fun r13 =>
  some (.normal, ⟨((5, r13.1) :: (0, r12.1) :: (17, r11.1) :: (0, r10.1) :: (6, r9.1) :: (9, r8.1) :: (prune kp_r02_step (prune kp_r02_step (prune kp_r02_step (prune kp_r02_step (prune kp_r02_step (prune kp_r02_step s.env))))))), r13.2⟩)) ((pv r11.2 (binA Try.prog .add 3 (get (prune kp_r02_step (prune kp_r02_step (prune kp_r02_step (prune kp_r02_step s.env)))) 5) (.v (Go.Value.int Go.IntKind.i64 1)))).bind fun r14 =>
  some (.normal, ⟨((5, r14.1) :: (17, r11.1) :: (0, r10.1) :: (6, r9.1) :: (9, r8.1) :: (prune kp_r02_step (prune kp_r02_step (prune kp_r02_step (prune kp_r02_step (prune kp_r02_step s.env)))))), r14.2⟩))) (some (.exit 0, ⟨((9, r8.1) :: (prune kp_r02_step s.env)), r8.2⟩))
noncomputable def B_r02_step_0 (_E : FnA) (_n _n0 : Nat) (x5 x4 x0 x1 : AV) (y : Bx) : Option (Ex × S) :=
  (pv y (binA Try.prog .lss 3 x5 x1)).bind fun r1 =>
  condA r1.1 ((pv r1.2 (binA Try.prog .rem 22 x0 (.v (Go.Value.int Go.IntKind.u32 2)))).bind fun r2 =>
  (pv r2.2 (binA Try.prog .quo 22 x0 (.v (Go.Value.int Go.IntKind.u32 2)))).bind fun r3 =>
  (pv r3.2 (binA Try.prog .eql 22 r2.1 (.v (Go.Value.int Go.IntKind.u32 1)))).bind fun r4 =>
  condA r4.1 ((pv r4.2 (binA Try.prog .xor 22 r3.1 (.v (Go.Value.int Go.IntKind.u32 2197175160)))).bind fun r5 =>
  (pv r5.2 (binA Try.prog .add 3 x5 (.v (Go.Value.int Go.IntKind.i64 1)))).bind fun r6 =>
  some (.normal, ⟨[(5, r6.1), (0, r5.1), (17, r4.1), (0, r3.1), (6, r2.1), (9, r1.1), (5, x5), (4, x4), (0, x0), (1, x1)], r6.2⟩)) ((pv r4.2 (binA Try.prog .add 3 x5 (.v (Go.Value.int Go.IntKind.i64 1)))).bind fun r7 =>
  some (.normal, ⟨[(5, r7.1), (17, r4.1), (0, r3.1), (6, r2.1), (9, r1.1), (5, x5), (4, x4), (0, x0), (1, x1)], r7.2⟩))) (some (.exit 0, ⟨[(9, r1.1), (5, x5), (4, x4), (0, x0), (1, x1)], r1.2⟩))
theorem L_r02_step_0_lit {E : FnA} {n n0 : Nat} {x5 x4 x0 x1 : AV} {y : Bx} {Q : Ex → S → Prop} (h : Ends (B_r02_step_0 E n n0 x5 x4 x0 x1 y) Q) : Ends (L_r02_step_0 E n n0 ⟨[(5, x5), (4, x4), (0, x0), (1, x1)], y⟩) Q := by
  rw [show L_r02_step_0 E n n0 ⟨[(5, x5), (4, x4), (0, x0), (1, x1)], y⟩ = B_r02_step_0 E n n0 x5 x4 x0 x1 y by kernel_rfl]
  exact h
noncomputable def K_r02_step_0 (_E : FnA) (_n _n0 : Nat) (t : S) : Option (Ex × S) :=
  some (.ret, ⟨((4, (get t.env 0)) :: (prune kp_r02_step t.env)), t.bx⟩)
noncomputable def X_r02_step_0 (_E : FnA) (_n _n0 : Nat) (i : Nat) (t : S) : Option (Ex × S) :=
  if i = 0 then some (.ret, ⟨((4, (get t.env 0)) :: (prune kp_r02_step t.env)), t.bx⟩) else some (.exit i, ⟨t.env, t.bx⟩)
noncomputable def X_r02_step_0_0 (_E : FnA) (_n _n0 : Nat) (x9 x5 x4 x0 x1 : AV) (y : Bx) : Option (Ex × S) :=
  some (.ret, ⟨[(4, x0), (9, x9), (5, x5), (4, x4), (0, x0), (1, x1)], y⟩)
theorem X_r02_step_0_0_lit {E : FnA} {n n0 : Nat} {x9 x5 x4 x0 x1 : AV} {y : Bx} {Q : Ex → S → Prop} (h : Ends (X_r02_step_0_0 E n n0 x9 x5 x4 x0 x1 y) Q) : Ends (X_r02_step_0 E n n0 0 ⟨[(9, x9), (5, x5), (4, x4), (0, x0), (1, x1)], y⟩) Q := by
  rw [show X_r02_step_0 E n n0 0 ⟨[(9, x9), (5, x5), (4, x4), (0, x0), (1, x1)], y⟩ = X_r02_step_0_0 E n n0 x9 x5 x4 x0 x1 y by kernel_rfl]
  exact h
noncomputable def F_r02_step (E : FnA) (n n0 : Nat) (a0 a1 : AV) (bx : Bx) : Option (Ex × S) :=
  exitA (iter ⟨[(5, (.v (Go.Value.int Go.IntKind.i64 0))), (4, (.v (Go.Value.int Go.IntKind.u32 0))), (0, a0), (1, a1)], bx⟩ (L_r02_step_0 E n n0) n ⟨[(5, (.v (Go.Value.int Go.IntKind.i64 0))), (4, (.v (Go.Value.int Go.IntKind.u32 0))), (0, a0), (1, a1)], bx⟩) (K_r02_step_0 E n n0) (X_r02_step_0 E n n0)
theorem c_r02_step_eq : Try.f35.body = some c_r02_step := by kernel_rfl
theorem d_r02_step : drawsOk Try.prog md0 c_r02_step = true := by kernel_rfl
theorem F_r02_step_eq (E : FnA) (n n0 : Nat) (a0 a1 : AV) (bx : Bx) : evK Try.prog md0 E 21 kp_r02_step n n0 c_r02_step ⟨[(0, a0), (1, a1)], bx⟩ (fun s => some (.normal, s)) (fun i s => some (.exit i, s)) = F_r02_step E n n0 a0 a1 bx := by kernel_rfl

theorem E_r02_step (n : Nat) (a0 a1 : AV) (bx : Bx) : evFn cx0 ext0 (n + 1) 35 [a0, a1] bx = fin Try.prog [.tmp 4] (F_r02_step (evFn cx0 ext0 n) n bx.length a0 a1 bx) := by
  rw [evFn_eq2 (cx := cx0) (c := c_r02_step) rfl Try.func35 c_r02_step_eq (of_decide_eq_true (by kernel_rfl)) d_r02_step (of_decide_eq_true (by kernel_rfl))]
  exact congrArg (fin Try.prog [.tmp 4]) (F_r02_step_eq (evFn cx0 ext0 n) n bx.length a0 a1 bx)

/-- scupper/num.get -/
def kp_num_get : Option (List Nat) := some [0, 1, 2, 6, 7, 8, 9, 25, 26, 27, 28]
noncomputable def c_num_get : Code := Try.f36.body.getD .skip
noncomputable def L_num_get_0 (_E : FnA) (_n _n0 : Nat) (s : S) : Option (Ex × S) :=
  (pv s.bx (binA Try.prog .lss 3 (get s.env 27) (get s.env 26))).bind fun r23 =>
  condA r23.1 ((pv r23.2 (binA Try.prog .add 3 (get (prune kp_num_get (prune kp_num_get s.env)) 1) (get (prune kp_num_get s.env) 27))).bind fun r24 =>
  (pv r24.2 (indexAddrA Try.prog 42 (get (prune kp_num_get (prune kp_num_get s.env)) 0) r24.1)).bind fun r25 =>
  (pv r25.2 (loadA Try.prog 5 r25.2 r25.1)).bind fun r26 =>
  (convA Try.prog r26.2 5 22 r26.1).bind fun r27 =>
  (pv r27.2 (binA Try.prog .mul 3 (.v (Go.Value.int Go.IntKind.i64 8)) (get (prune kp_num_get s.env) 27))).bind fun r28 =>
  (pv r28.2 (binA Try.prog .shl 22 r27.1 r28.1)).bind fun r29 =>
  (pv r29.2 (binA Try.prog .or 22 (get (prune kp_num_get (prune kp_num_get s.env)) 8) r29.1)).bind fun r30 =>
  (pv r30.2 (binA Try.prog .add 3 (get (prune kp_num_get (prune kp_num_get (prune kp_num_get s.env))) 27) (.v (Go.Value.int Go.IntKind.i64 1)))).bind fun r31 =>
  some (.normal, ⟨((27, r31.1) :: (8, r30.1) :: (9, (get (prune kp_num_get s.env) 27)) :: (28, r23.1) :: (prune kp_num_get (prune kp_num_get (prune kp_num_get (prune kp_num_get s.env))))), r31.2⟩)) (some (.exit 0, ⟨((28, r23.1) :: (prune kp_num_get s.env)), r23.2⟩))
noncomputable def B_num_get_0 (_E : FnA) (_n _n0 : Nat) (x27 x26 x8 x25 x7 x6 x0 x1 x2 : AV) (y : Bx) : Option (Ex × S) :=
  (pv y (binA Try.prog .lss 3 x27 x26)).bind fun r14 =>
  condA r14.1 ((pv r14.2 (binA Try.prog .add 3 x1 x27)).bind fun r15 =>
  (pv r15.2 (indexAddrA Try.prog 42 x0 r15.1)).bind fun r16 =>
  (pv r16.2 (loadA Try.prog 5 r16.2 r16.1)).bind fun r17 =>
  (convA Try.prog r17.2 5 22 r17.1).bind fun r18 =>
  (pv r18.2 (binA Try.prog .mul 3 (.v (Go.Value.int Go.IntKind.i64 8)) x27)).bind fun r19 =>
  (pv r19.2 (binA Try.prog .shl 22 r18.1 r19.1)).bind fun r20 =>
  (pv r20.2 (binA Try.prog .or 22 x8 r20.1)).bind fun r21 =>
  (pv r21.2 (binA Try.prog .add 3 x27 (.v (Go.Value.int Go.IntKind.i64 1)))).bind fun r22 =>
  some (.normal, ⟨[(27, r22.1), (8, r21.1), (9, x27), (28, r14.1), (27, x27), (26, x26), (8, x8), (25, x25), (7, x7), (6, x6), (0, x0), (1, x1), (2, x2)], r22.2⟩)) (some (.exit 0, ⟨[(28, r14.1), (27, x27), (26, x26), (8, x8), (25, x25), (7, x7), (6, x6), (0, x0), (1, x1), (2, x2)], r14.2⟩))
theorem L_num_get_0_lit {E : FnA} {n n0 : Nat} {x27 x26 x8 x25 x7 x6 x0 x1 x2 : AV} {y : Bx} {Q : Ex → S → Prop} (h : Ends (B_num_get_0 E n n0 x27 x26 x8 x25 x7 x6 x0 x1 x2 y) Q) : Ends (L_num_get_0 E n n0 ⟨[(27, x27), (26, x26), (8, x8), (25, x25), (7, x7), (6, x6), (0, x0), (1, x1), (2, x2)], y⟩) Q := by
  rw [show L_num_get_0 E n n0 ⟨[(27, x27), (26, x26), (8, x8), (25, x25), (7, x7), (6, x6), (0, x0), (1, x1), (2, x2)], y⟩ = B_num_get_0 E n n0 x27 x26 x8 x25 x7 x6 x0 x1 x2 y by kernel_rfl]
  exact h
noncomputable def K_num_get_0 (_E : FnA) (_n _n0 : Nat) (t : S) : Option (Ex × S) :=
  some (.ret, ⟨((7, (.v (Go.Value.int Go.IntKind.i64 0))) :: (6, (get t.env 8)) :: (prune kp_num_get t.env)), t.bx⟩)
noncomputable def X_num_get_0 (_E : FnA) (_n _n0 : Nat) (i : Nat) (t : S) : Option (Ex × S) :=
  if i = 0 then some (.ret, ⟨((7, (.v (Go.Value.int Go.IntKind.i64 0))) :: (6, (get t.env 8)) :: (prune kp_num_get t.env)), t.bx⟩) else some (.exit i, ⟨t.env, t.bx⟩)
noncomputable def X_num_get_0_0 (_E : FnA) (_n _n0 : Nat) (x28 x27 x26 x8 x25 x7 x6 x0 x1 x2 : AV) (y : Bx) : Option (Ex × S) :=
  some (.ret, ⟨[(7, (.v (Go.Value.int Go.IntKind.i64 0))), (6, x8), (28, x28), (27, x27), (26, x26), (8, x8), (25, x25), (7, x7), (6, x6), (0, x0), (1, x1), (2, x2)], y⟩)
theorem X_num_get_0_0_lit {E : FnA} {n n0 : Nat} {x28 x27 x26 x8 x25 x7 x6 x0 x1 x2 : AV} {y : Bx} {Q : Ex → S → Prop} (h : Ends (X_num_get_0_0 E n n0 x28 x27 x26 x8 x25 x7 x6 x0 x1 x2 y) Q) : Ends (X_num_get_0 E n n0 0 ⟨[(28, x28), (27, x27), (26, x26), (8, x8), (25, x25), (7, x7), (6, x6), (0, x0), (1, x1), (2, x2)], y⟩) Q := by
  rw [show X_num_get_0 E n n0 0 ⟨[(28, x28), (27, x27), (26, x26), (8, x8), (25, x25), (7, x7), (6, x6), (0, x0), (1, x1), (2, x2)], y⟩ = X_num_get_0_0 E n n0 x28 x27 x26 x8 x25 x7 x6 x0 x1 x2 y by kernel_rfl]
  exact h
noncomputable def F_num_get (E : FnA) (n n0 : Nat) (a0 a1 a2 : AV) (bx : Bx) : Option (Ex × S) :=
  (pv bx (binA Try.prog .lss 3 a1 (.v (Go.Value.int Go.IntKind.i64 0)))).bind fun r1 =>
  (gsel false r1.2 (some (a1, r1.2)) r1.1).bind fun r2 =>
  (gsel false r2.2 (some (a0, r2.2)) r1.1).bind fun r3 =>
  (gsel false r3.2 (pv r3.2 (lenA Try.prog 42 r3.1)) r1.1).bind fun r4 =>
  (gsel false r4.2 (pv r4.2 (binA Try.prog .gtr 3 r2.1 r4.1)) r1.1).bind fun r5 =>
  (pv r5.2 (pickA r1.1 (.v (Go.Value.bool true)) r5.1)).bind fun r6 =>
  (gsel false r6.2 (some (a0, r6.2)) r6.1).bind fun r7 =>
  (gsel false r7.2 (pv r7.2 (lenA Try.prog 42 r7.1)) r6.1).bind fun r8 =>
  (gsel false r8.2 (some (a1, r8.2)) r6.1).bind fun r9 =>
  (gsel false r9.2 (pv r9.2 (binA Try.prog .sub 3 r8.1 r9.1)) r6.1).bind fun r10 =>
  (gsel false r10.2 (some (a2, r10.2)) r6.1).bind fun r11 =>
  (gsel false r11.2 (pv r11.2 (binA Try.prog .lss 3 r10.1 r11.1)) r6.1).bind fun r12 =>
  (pv r12.2 (pickA r6.1 (.v (Go.Value.bool true)) r12.1)).bind fun r13 =>
  condA r13.1 (some (.ret, ⟨[(7, (.v (Go.Value.int Go.IntKind.i64 7))), (6, (.v (Go.Value.int Go.IntKind.u32 0))), (25, r13.1), (7, (.v (Go.Value.int Go.IntKind.i64 0))), (6, (.v (Go.Value.int Go.IntKind.u32 0))), (0, a0), (1, a1), (2, a2)], r13.2⟩)) (exitA (iter ⟨[(27, (.v (Go.Value.int Go.IntKind.i64 0))), (26, a2), (8, (.v (Go.Value.int Go.IntKind.u32 0))), (25, r13.1), (7, (.v (Go.Value.int Go.IntKind.i64 0))), (6, (.v (Go.Value.int Go.IntKind.u32 0))), (0, a0), (1, a1), (2, a2)], r13.2⟩ (L_num_get_0 E n n0) n ⟨[(27, (.v (Go.Value.int Go.IntKind.i64 0))), (26, a2), (8, (.v (Go.Value.int Go.IntKind.u32 0))), (25, r13.1), (7, (.v (Go.Value.int Go.IntKind.i64 0))), (6, (.v (Go.Value.int Go.IntKind.u32 0))), (0, a0), (1, a1), (2, a2)], r13.2⟩) (K_num_get_0 E n n0) (X_num_get_0 E n n0))
theorem c_num_get_eq : Try.f36.body = some c_num_get := by kernel_rfl
theorem d_num_get : drawsOk Try.prog md0 c_num_get = true := by kernel_rfl
theorem F_num_get_eq (E : FnA) (n n0 : Nat) (a0 a1 a2 : AV) (bx : Bx) : evK Try.prog md0 E 44 kp_num_get n n0 c_num_get ⟨[(0, a0), (1, a1), (2, a2)], bx⟩ (fun s => some (.normal, s)) (fun i s => some (.exit i, s)) = F_num_get E n n0 a0 a1 a2 bx := by kernel_rfl

theorem E_num_get (n : Nat) (a0 a1 a2 : AV) (bx : Bx) : evFn cx0 ext0 (n + 1) 36 [a0, a1, a2] bx = fin Try.prog [.tmp 6, .tmp 7] (F_num_get (evFn cx0 ext0 n) n bx.length a0 a1 a2 bx) := by
  rw [evFn_eq2 (cx := cx0) (c := c_num_get) rfl Try.func36 c_num_get_eq (of_decide_eq_true (by kernel_rfl)) d_num_get (of_decide_eq_true (by kernel_rfl))]
  exact congrArg (fin Try.prog [.tmp 6, .tmp 7]) (F_num_get_eq (evFn cx0 ext0 n) n bx.length a0 a1 a2 bx)

end Go.Sy
