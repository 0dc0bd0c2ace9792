/-
  What the functions under this seat's laws read as, in the reader's words; no conditions.
-/
import Derived.Test.YtjmdohmfienfoaaSyStep
import Derived.Test.YtjmdohmfienfoaaProg
import Derived.KernelRfl
import Derived.Test.YtjmdohmfienfoaaPfAllS
namespace Go.Sy
open Go.Proofs
def kpT : FuncId → Option (List Nat)
  | 3 => some [0, 2, 3]
  | 4 => some [0, 1, 2, 4, 6, 7, 8, 9, 10, 11, 12, 13, 14]
  | 5 => some [0, 1, 4, 5, 6, 7, 8, 9, 10, 12]
  | 6 => some [0, 1, 2, 3, 6, 7, 8, 9, 10, 11, 12, 13, 14, 15, 16, 17, 18, 73, 77, 88, 93]
  | 7 => some [0, 2, 4]
  | 8 => some [0, 2, 4]
  | 9 => some [0, 1, 2, 3, 4]
  | 10 => some [0, 2, 3, 4, 12, 17]
  | 11 => some [0, 2, 3, 9, 12, 16]
  | 12 => some [0, 1, 2, 3, 4, 5, 6, 20, 24, 25, 29, 49]
  | 13 => some [0, 1, 2, 3, 4, 5, 8, 18]
  | 14 => some [0, 1, 4, 6]
  | 15 => some [0, 1, 2, 4, 5, 8]
  | 16 => some [0, 1, 2, 4, 5, 11]
  | 17 => some [0, 1, 2, 3, 6, 7, 8, 11]
  | 18 => some [0, 1, 2, 3, 6, 7, 8, 9, 15]
  | 20 => some [0, 1, 2, 3, 4, 5, 9]
  | 22 => some [0, 2]
  | 23 => some [0, 1, 4, 5, 6, 7]
  | 24 => some [0, 1, 4, 5, 6, 7]
  | 25 => some [0, 2]
  | 26 => some [0, 2]
  | 28 => some [0, 1, 2, 6, 7, 8, 9, 25, 26, 27, 28]
  | 29 => some [0, 1, 2, 6, 7, 8, 9, 25, 29]
  | _ => none
def mdT : FuncId → FuncId → Md
  | _ => md0
noncomputable def cx0 : Cx := { P := Try.prog, md := mdT, kp := kpT }
noncomputable def ext0 : FnA := extC
theorem ext0_ok (f : FuncId) (args : List AV) (bx : Bx) (r : AV) (bx' : Bx) (h : ext0 f args bx = some (r, bx')) : Sound cx0.P f args bx r bx' := extC_ok f args bx r bx' h
/-- scupper/scupperlaw11.PtrsBlocks -/
def kp_l11_PtrsBlocks : Option (List Nat) := some [0, 2, 3]
noncomputable def c_l11_PtrsBlocks : Code := Try.f3.body.getD .skip
noncomputable def F_l11_PtrsBlocks (E : FnA) (_n _n0 : Nat) (a0 : AV) (bx : Bx) : Option (Ex × S) :=
  (callA E md0 bx 7 [a0]).bind fun r1 =>
  (callA E md0 r1.2 8 [a0]).bind fun r2 =>
  (pv r2.2 (binA Try.prog .eql 3 r1.1 r2.1)).bind fun r3 =>
  (gsel true r3.2 (some (a0, r3.2)) r3.1).bind fun r4 =>
  (gsel true r4.2 (pv r4.2 (binA Try.prog .leq 3 r4.1 (.v (Go.Value.int Go.IntKind.i64 0)))) r3.1).bind fun r5 =>
  (gsel true r5.2 (some (r5.1, r5.2)) r3.1).bind fun r6 =>
  (gsel false r6.2 (some (a0, r6.2)) r6.1).bind fun r7 =>
  (gsel false r7.2 (pv r7.2 (binA Try.prog .gtr 3 r7.1 (.v (Go.Value.int Go.IntKind.i64 1099511627776)))) r6.1).bind fun r8 =>
  (gsel true r8.2 (pv r8.2 (pickA r6.1 (.v (Go.Value.bool true)) r8.1)) r3.1).bind fun r9 =>
  (gsel true r9.2 (some (r9.1, r9.2)) r3.1).bind fun r10 =>
  (gsel false r10.2 (some (r1.1, r10.2)) r10.1).bind fun r11 =>
  (gsel false r11.2 (pv r11.2 (binA Try.prog .mul 3 (.v (Go.Value.int Go.IntKind.i64 64)) r11.1)) r10.1).bind fun r12 =>
  (gsel false r12.2 (some (a0, r12.2)) r10.1).bind fun r13 =>
  (gsel false r13.2 (pv r13.2 (binA Try.prog .geq 3 r12.1 r13.1)) r10.1).bind fun r14 =>
  (gsel false r14.2 (some (r14.1, r14.2)) r10.1).bind fun r15 =>
  (gsel true r15.2 (some (r1.1, r15.2)) r15.1).bind fun r16 =>
  (gsel true r16.2 (pv r16.2 (binA Try.prog .sub 3 r16.1 (.v (Go.Value.int Go.IntKind.i64 1)))) r15.1).bind fun r17 =>
  (gsel true r17.2 (pv r17.2 (binA Try.prog .mul 3 (.v (Go.Value.int Go.IntKind.i64 64)) r17.1)) r15.1).bind fun r18 =>
  (gsel true r18.2 (some (a0, r18.2)) r15.1).bind fun r19 =>
  (gsel true r19.2 (pv r19.2 (binA Try.prog .lss 3 r18.1 r19.1)) r15.1).bind fun r20 =>
  (gsel false r20.2 (pv r20.2 (pickA r15.1 r20.1 (.v (Go.Value.bool false)))) r10.1).bind fun r21 =>
  (gsel true r21.2 (pv r21.2 (pickA r10.1 (.v (Go.Value.bool true)) r21.1)) r3.1).bind fun r22 =>
  (pv r22.2 (pickA r3.1 r22.1 (.v (Go.Value.bool false)))).bind fun r23 =>
  (gsel true r23.2 (callA E md0 r23.2 9 []) r23.1).bind fun r24 =>
  (pv r24.2 (pickA r23.1 r24.1 (.v (Go.Value.bool false)))).bind fun r25 =>
  some (.ret, ⟨[(2, r25.1), (3, r1.1), (2, (.v (Go.Value.bool false))), (0, a0)], r25.2⟩)
theorem c_l11_PtrsBlocks_eq : Try.f3.body = some c_l11_PtrsBlocks := by kernel_rfl
theorem d_l11_PtrsBlocks : drawsOk Try.prog md0 c_l11_PtrsBlocks = true := by kernel_rfl
theorem F_l11_PtrsBlocks_eq (E : FnA) (n n0 : Nat) (a0 : AV) (bx : Bx) : evK Try.prog md0 E 34 kp_l11_PtrsBlocks n n0 c_l11_PtrsBlocks ⟨[(0, a0)], bx⟩ (fun s => some (.normal, s)) (fun i s => some (.exit i, s)) = F_l11_PtrsBlocks E n n0 a0 bx := by kernel_rfl

theorem E_l11_PtrsBlocks (n : Nat) (a0 : AV) (bx : Bx) : evFn cx0 ext0 (n + 1) 3 [a0] bx = fin Try.prog [.tmp 2] (F_l11_PtrsBlocks (evFn cx0 ext0 n) n bx.length a0 bx) := by
  rw [evFn_eq2 (cx := cx0) (c := c_l11_PtrsBlocks) rfl Try.func3 c_l11_PtrsBlocks_eq (of_decide_eq_true (by kernel_rfl)) d_l11_PtrsBlocks (of_decide_eq_true (by kernel_rfl))]
  exact congrArg (fin Try.prog [.tmp 2]) (F_l11_PtrsBlocks_eq (evFn cx0 ext0 n) n bx.length a0 bx)

/-- scupper/scupperlaw11.PtrsWays -/
def kp_l11_PtrsWays : Option (List Nat) := some [0, 1, 2, 4, 6, 7, 8, 9, 10, 11, 12, 13, 14]
noncomputable def c_l11_PtrsWays : Code := Try.f4.body.getD .skip
noncomputable def F_l11_PtrsWays (E : FnA) (_n _n0 : Nat) (a0 a1 a2 : AV) (bx : Bx) : Option (Ex × S) :=
  (boxA bx a1).bind fun r1 =>
  (callA E md0 r1.2 10 [a0]).bind fun r2 =>
  (pv r2.2 (tupA r2.1 0)).bind fun r3 =>
  (pv r3.2 (tupA r2.1 1)).bind fun r4 =>
  (allocA Try.prog r4.2 26).bind fun r5 =>
  (stA Try.prog 26 r5.2 r5.1 r3.1).bind fun r6 =>
  (callA E md0 r6.2 11 [a0]).bind fun r7 =>
  (pv r7.2 (tupA r7.1 0)).bind fun r8 =>
  (pv r8.2 (tupA r7.1 1)).bind fun r9 =>
  (allocA Try.prog r9.2 30).bind fun r10 =>
  (stA Try.prog 30 r10.2 r10.1 r8.1).bind fun r11 =>
  (pv r11.2 (loadA Try.prog 26 r11.2 r1.1)).bind fun r12 =>
  (callA E md0 r12.2 12 [r12.1]).bind fun r13 =>
  (pv r13.2 (tupA r13.1 0)).bind fun r14 =>
  (pv r14.2 (tupA r13.1 1)).bind fun r15 =>
  (pv r15.2 (fieldAddrA Try.prog 26 r1.1 0)).bind fun r16 =>
  (pv r16.2 (loadA Try.prog 3 r16.2 r16.1)).bind fun r17 =>
  (pv r17.2 (fieldAddrA Try.prog 26 r1.1 1)).bind fun r18 =>
  (pv r18.2 (loadA Try.prog 3 r18.2 r18.1)).bind fun r19 =>
  (pv r19.2 (fieldAddrA Try.prog 26 r1.1 2)).bind fun r20 =>
  (pv r20.2 (loadA Try.prog 3 r20.2 r20.1)).bind fun r21 =>
  (pv r21.2 (buildA Try.prog 30 [(0, r17.1), (1, r19.1), (2, r21.1)])).bind fun r22 =>
  (callA E md0 r22.2 13 [r22.1]).bind fun r23 =>
  (pv r23.2 (tupA r23.1 0)).bind fun r24 =>
  (pv r24.2 (tupA r23.1 1)).bind fun r25 =>
  (pv r25.2 (fieldAddrA Try.prog 26 r5.1 0)).bind fun r26 =>
  (pv r26.2 (loadA Try.prog 3 r26.2 r26.1)).bind fun r27 =>
  (pv r27.2 (fieldAddrA Try.prog 30 r10.1 0)).bind fun r28 =>
  (pv r28.2 (loadA Try.prog 3 r28.2 r28.1)).bind fun r29 =>
  (pv r29.2 (binA Try.prog .eql 3 r27.1 r29.1)).bind fun r30 =>
  (gsel true r30.2 (pv r30.2 (fieldAddrA Try.prog 26 r5.1 1)) r30.1).bind fun r31 =>
  (gsel true r31.2 (pv r31.2 (loadA Try.prog 3 r31.2 r31.1)) r30.1).bind fun r32 =>
  (gsel true r32.2 (pv r32.2 (fieldAddrA Try.prog 30 r10.1 1)) r30.1).bind fun r33 =>
  (gsel true r33.2 (pv r33.2 (loadA Try.prog 3 r33.2 r33.1)) r30.1).bind fun r34 =>
  (gsel true r34.2 (pv r34.2 (binA Try.prog .eql 3 r32.1 r34.1)) r30.1).bind fun r35 =>
  (pv r35.2 (pickA r30.1 r35.1 (.v (Go.Value.bool false)))).bind fun r36 =>
  (gsel true r36.2 (pv r36.2 (fieldAddrA Try.prog 26 r5.1 2)) r36.1).bind fun r37 =>
  (gsel true r37.2 (pv r37.2 (loadA Try.prog 3 r37.2 r37.1)) r36.1).bind fun r38 =>
  (gsel true r38.2 (pv r38.2 (fieldAddrA Try.prog 30 r10.1 2)) r36.1).bind fun r39 =>
  (gsel true r39.2 (pv r39.2 (loadA Try.prog 3 r39.2 r39.1)) r36.1).bind fun r40 =>
  (gsel true r40.2 (pv r40.2 (binA Try.prog .eql 3 r38.1 r40.1)) r36.1).bind fun r41 =>
  (pv r41.2 (pickA r36.1 r41.1 (.v (Go.Value.bool false)))).bind fun r42 =>
  (gsel true r42.2 (some (r4.1, r42.2)) r42.1).bind fun r43 =>
  (gsel true r43.2 (some (r9.1, r43.2)) r42.1).bind fun r44 =>
  (gsel true r44.2 (pv r44.2 (binA Try.prog .eql 27 r43.1 r44.1)) r42.1).bind fun r45 =>
  (pv r45.2 (pickA r42.1 r45.1 (.v (Go.Value.bool false)))).bind fun r46 =>
  (gsel true r46.2 (some (r14.1, r46.2)) r46.1).bind fun r47 =>
  (gsel true r47.2 (some (r24.1, r47.2)) r46.1).bind fun r48 =>
  (gsel true r48.2 (pv r48.2 (binA Try.prog .eql 3 r47.1 r48.1)) r46.1).bind fun r49 =>
  (pv r49.2 (pickA r46.1 r49.1 (.v (Go.Value.bool false)))).bind fun r50 =>
  (gsel true r50.2 (some (r15.1, r50.2)) r50.1).bind fun r51 =>
  (gsel true r51.2 (some (r25.1, r51.2)) r50.1).bind fun r52 =>
  (gsel true r52.2 (pv r52.2 (binA Try.prog .eql 27 r51.1 r52.1)) r50.1).bind fun r53 =>
  (pv r53.2 (pickA r50.1 r53.1 (.v (Go.Value.bool false)))).bind fun r54 =>
  (gsel true r54.2 (some (a2, r54.2)) r54.1).bind fun r55 =>
  (gsel true r55.2 (callA E md0 r55.2 7 [r55.1]) r54.1).bind fun r56 =>
  (gsel true r56.2 (some (a2, r56.2)) r54.1).bind fun r57 =>
  (gsel true r57.2 (callA E md0 r57.2 8 [r57.1]) r54.1).bind fun r58 =>
  (gsel true r58.2 (pv r58.2 (binA Try.prog .eql 3 r56.1 r58.1)) r54.1).bind fun r59 =>
  (pv r59.2 (pickA r54.1 r59.1 (.v (Go.Value.bool false)))).bind fun r60 =>
  (gsel true r60.2 (callA E md0 r60.2 9 []) r60.1).bind fun r61 =>
  (pv r61.2 (pickA r60.1 r61.1 (.v (Go.Value.bool false)))).bind fun r62 =>
  some (.ret, ⟨[(6, r62.1), (14, r25.1), (13, r24.1), (12, r15.1), (11, r14.1), (10, r9.1), (9, r10.1), (8, r4.1), (7, r5.1), (6, (.v (Go.Value.bool false))), (4, r1.1), (0, a0), (1, a1), (2, a2)], r62.2⟩)
theorem c_l11_PtrsWays_eq : Try.f4.body = some c_l11_PtrsWays := by kernel_rfl
theorem d_l11_PtrsWays : drawsOk Try.prog md0 c_l11_PtrsWays = true := by kernel_rfl
theorem F_l11_PtrsWays_eq (E : FnA) (n n0 : Nat) (a0 a1 a2 : AV) (bx : Bx) : evK Try.prog md0 E 85 kp_l11_PtrsWays n n0 c_l11_PtrsWays ⟨[(0, a0), (1, a1), (2, a2)], bx⟩ (fun s => some (.normal, s)) (fun i s => some (.exit i, s)) = F_l11_PtrsWays E n n0 a0 a1 a2 bx := by kernel_rfl

theorem E_l11_PtrsWays (n : Nat) (a0 a1 a2 : AV) (bx : Bx) : evFn cx0 ext0 (n + 1) 4 [a0, a1, a2] bx = fin Try.prog [.tmp 6] (F_l11_PtrsWays (evFn cx0 ext0 n) n bx.length a0 a1 a2 bx) := by
  rw [evFn_eq2 (cx := cx0) (c := c_l11_PtrsWays) rfl Try.func4 c_l11_PtrsWays_eq (of_decide_eq_true (by kernel_rfl)) d_l11_PtrsWays (of_decide_eq_true (by kernel_rfl))]
  exact congrArg (fin Try.prog [.tmp 6]) (F_l11_PtrsWays_eq (evFn cx0 ext0 n) n bx.length a0 a1 a2 bx)

/-- scupper/scupperlaw11.PtrsBack -/
def kp_l11_PtrsBack : Option (List Nat) := some [0, 1, 4, 5, 6, 7, 8, 9, 10, 12]
noncomputable def c_l11_PtrsBack : Code := Try.f5.body.getD .skip
noncomputable def F_l11_PtrsBack (E : FnA) (_n _n0 : Nat) (a0 a1 : AV) (bx : Bx) : Option (Ex × S) :=
  (callA E md0 bx 9 []).bind fun r1 =>
  (pv r1.2 (unA .not r1.1)).bind fun r2 =>
  condA r2.1 (some (.ret, ⟨[(4, (.v (Go.Value.bool false))), (12, r2.1), (4, (.v (Go.Value.bool false))), (0, a0), (1, a1)], r2.2⟩)) ((callA E md0 r2.2 14 [a0, (.v (Go.Value.int Go.IntKind.i64 760))]).bind fun r3 =>
  (callA E md0 r3.2 14 [a1, (.v (Go.Value.int Go.IntKind.i64 760))]).bind fun r4 =>
  (callA E md0 r4.2 10 [r3.1]).bind fun r5 =>
  (pv r5.2 (tupA r5.1 0)).bind fun r6 =>
  (pv r6.2 (tupA r5.1 1)).bind fun r7 =>
  (allocA Try.prog r7.2 26).bind fun r8 =>
  (stA Try.prog 26 r8.2 r8.1 r6.1).bind fun r9 =>
  (callA E md0 r9.2 10 [r4.1]).bind fun r10 =>
  (pv r10.2 (tupA r10.1 0)).bind fun r11 =>
  (pv r11.2 (tupA r10.1 1)).bind fun r12 =>
  (allocA Try.prog r12.2 26).bind fun r13 =>
  (stA Try.prog 26 r13.2 r13.1 r11.1).bind fun r14 =>
  (pv r14.2 (loadA Try.prog 26 r14.2 r8.1)).bind fun r15 =>
  (callA E md0 r15.2 12 [r15.1]).bind fun r16 =>
  (pv r16.2 (tupA r16.1 0)).bind fun r17 =>
  (pv r17.2 (tupA r16.1 1)).bind fun r18 =>
  (pv r18.2 (binA Try.prog .eql 27 r7.1 (.v (Go.Value.int Go.IntKind.i64 0)))).bind fun r19 =>
  (gsel true r19.2 (some (r12.1, r19.2)) r19.1).bind fun r20 =>
  (gsel true r20.2 (pv r20.2 (binA Try.prog .eql 27 r20.1 (.v (Go.Value.int Go.IntKind.i64 0)))) r19.1).bind fun r21 =>
  (pv r21.2 (pickA r19.1 r21.1 (.v (Go.Value.bool false)))).bind fun r22 =>
  (gsel true r22.2 (some (r18.1, r22.2)) r22.1).bind fun r23 =>
  (gsel true r23.2 (pv r23.2 (binA Try.prog .eql 27 r23.1 (.v (Go.Value.int Go.IntKind.i64 0)))) r22.1).bind fun r24 =>
  (pv r24.2 (pickA r22.1 r24.1 (.v (Go.Value.bool false)))).bind fun r25 =>
  (gsel true r25.2 (some (r17.1, r25.2)) r25.1).bind fun r26 =>
  (gsel true r26.2 (some (r3.1, r26.2)) r25.1).bind fun r27 =>
  (gsel true r27.2 (pv r27.2 (binA Try.prog .eql 3 r26.1 r27.1)) r25.1).bind fun r28 =>
  (pv r28.2 (pickA r25.1 r28.1 (.v (Go.Value.bool false)))).bind fun r29 =>
  (gsel true r29.2 (pv r29.2 (loadA Try.prog 26 r29.2 r8.1)) r29.1).bind fun r30 =>
  (gsel true r30.2 (pv r30.2 (loadA Try.prog 26 r30.2 r13.1)) r29.1).bind fun r31 =>
  (gsel true r31.2 (pv r31.2 (binA Try.prog .eql 26 r30.1 r31.1)) r29.1).bind fun r32 =>
  (gsel true r32.2 (some (r3.1, r32.2)) r29.1).bind fun r33 =>
  (gsel true r33.2 (some (r4.1, r33.2)) r29.1).bind fun r34 =>
  (gsel true r34.2 (pv r34.2 (binA Try.prog .eql 3 r33.1 r34.1)) r29.1).bind fun r35 =>
  (gsel true r35.2 (pv r35.2 (binA Try.prog .eql 4 r32.1 r35.1)) r29.1).bind fun r36 =>
  (pv r36.2 (pickA r29.1 r36.1 (.v (Go.Value.bool false)))).bind fun r37 =>
  (gsel true r37.2 (some (r3.1, r37.2)) r37.1).bind fun r38 =>
  (gsel true r38.2 (pv r38.2 (binA Try.prog .mul 3 (.v (Go.Value.int Go.IntKind.i64 64)) r38.1)) r37.1).bind fun r39 =>
  (gsel true r39.2 (pv r39.2 (binA Try.prog .add 3 r39.1 (.v (Go.Value.int Go.IntKind.i64 1)))) r37.1).bind fun r40 =>
  (gsel true r40.2 (callA E md0 r40.2 7 [r40.1]) r37.1).bind fun r41 =>
  (gsel true r41.2 (some (r3.1, r41.2)) r37.1).bind fun r42 =>
  (gsel true r42.2 (pv r42.2 (binA Try.prog .add 3 r42.1 (.v (Go.Value.int Go.IntKind.i64 1)))) r37.1).bind fun r43 =>
  (gsel true r43.2 (pv r43.2 (binA Try.prog .eql 3 r41.1 r43.1)) r37.1).bind fun r44 =>
  (pv r44.2 (pickA r37.1 r44.1 (.v (Go.Value.bool false)))).bind fun r45 =>
  (gsel true r45.2 (some (r3.1, r45.2)) r45.1).bind fun r46 =>
  (gsel true r46.2 (pv r46.2 (binA Try.prog .mul 3 (.v (Go.Value.int Go.IntKind.i64 64)) r46.1)) r45.1).bind fun r47 =>
  (gsel true r47.2 (callA E md0 r47.2 7 [r47.1]) r45.1).bind fun r48 =>
  (gsel true r48.2 (some (r3.1, r48.2)) r45.1).bind fun r49 =>
  (gsel true r49.2 (pv r49.2 (binA Try.prog .eql 3 r48.1 r49.1)) r45.1).bind fun r50 =>
  (pv r50.2 (pickA r45.1 r50.1 (.v (Go.Value.bool false)))).bind fun r51 =>
  some (.ret, ⟨[(4, r51.1), (10, r18.1), (9, r17.1), (8, r12.1), (7, r13.1), (6, r7.1), (5, r8.1), (1, r4.1), (0, r3.1), (12, r2.1), (4, (.v (Go.Value.bool false))), (0, a0), (1, a1)], r51.2⟩))
theorem c_l11_PtrsBack_eq : Try.f5.body = some c_l11_PtrsBack := by kernel_rfl
theorem d_l11_PtrsBack : drawsOk Try.prog md0 c_l11_PtrsBack = true := by kernel_rfl
theorem F_l11_PtrsBack_eq (E : FnA) (n n0 : Nat) (a0 a1 : AV) (bx : Bx) : evK Try.prog md0 E 72 kp_l11_PtrsBack n n0 c_l11_PtrsBack ⟨[(0, a0), (1, a1)], bx⟩ (fun s => some (.normal, s)) (fun i s => some (.exit i, s)) = F_l11_PtrsBack E n n0 a0 a1 bx := by kernel_rfl

theorem E_l11_PtrsBack (n : Nat) (a0 a1 : AV) (bx : Bx) : evFn cx0 ext0 (n + 1) 5 [a0, a1] bx = fin Try.prog [.tmp 4] (F_l11_PtrsBack (evFn cx0 ext0 n) n bx.length a0 a1 bx) := by
  rw [evFn_eq2 (cx := cx0) (c := c_l11_PtrsBack) rfl Try.func5 c_l11_PtrsBack_eq (of_decide_eq_true (by kernel_rfl)) d_l11_PtrsBack (of_decide_eq_true (by kernel_rfl))]
  exact congrArg (fin Try.prog [.tmp 4]) (F_l11_PtrsBack_eq (evFn cx0 ext0 n) n bx.length a0 a1 bx)

/-- scupper/scupperlaw11.PtrsLoads -/
def kp_l11_PtrsLoads : Option (List Nat) := some [0, 1, 2, 3, 6, 7, 8, 9, 10, 11, 12, 13, 14, 15, 16, 17, 18, 73, 77, 88, 93]
noncomputable def c_l11_PtrsLoads : Code := Try.f6.body.getD .skip
noncomputable def L_l11_PtrsLoads_0 (_E : FnA) (_n _n0 : Nat) (s : S) : Option (Ex × S) :=
  (pv s.bx (lenA Try.prog 46 (get s.env 15))).bind fun r58 =>
  (pv r58.2 (binA Try.prog .lss 3 (get s.env 18) r58.1)).bind fun r59 =>
  condA r59.1 ((pv r59.2 (indexAddrA Try.prog 46 (get (prune kp_l11_PtrsLoads s.env) 15) (get (prune kp_l11_PtrsLoads s.env) 18))).bind fun r60 =>
  (pv r60.2 (loadA Try.prog 41 r60.2 r60.1)).bind fun r61 =>
  (pv r61.2 (indexAddrA Try.prog 46 (get (prune kp_l11_PtrsLoads s.env) 16) (get (prune kp_l11_PtrsLoads s.env) 18))).bind fun r62 =>
  (pv r62.2 (loadA Try.prog 41 r62.2 r62.1)).bind fun r63 =>
  (pv r63.2 (binA Try.prog .neq 41 r61.1 r63.1)).bind fun r64 =>
  condA r64.1 (some (.ret, ⟨((6, (.v (Go.Value.bool false))) :: (88, r64.1) :: (77, r59.1) :: (prune kp_l11_PtrsLoads (prune kp_l11_PtrsLoads (prune kp_l11_PtrsLoads s.env)))), r64.2⟩)) ((pv r64.2 (indexAddrA Try.prog 46 (get (prune kp_l11_PtrsLoads (prune kp_l11_PtrsLoads s.env)) 16) (get (prune kp_l11_PtrsLoads (prune kp_l11_PtrsLoads s.env)) 18))).bind fun r65 =>
  (pv r65.2 (loadA Try.prog 41 r65.2 r65.1)).bind fun r66 =>
  (pv r66.2 (binA Try.prog .neq 41 r66.1 (.v (Go.Value.int Go.IntKind.u16 0)))).bind fun r67 =>
  condA r67.1 ((pv r67.2 (binA Try.prog .add 3 (get (prune kp_l11_PtrsLoads (prune kp_l11_PtrsLoads (prune kp_l11_PtrsLoads s.env))) 17) (.v (Go.Value.int Go.IntKind.i64 1)))).bind fun r68 =>
  (pv r68.2 (binA Try.prog .add 3 (get (prune kp_l11_PtrsLoads (prune kp_l11_PtrsLoads (prune kp_l11_PtrsLoads (prune kp_l11_PtrsLoads s.env)))) 18) (.v (Go.Value.int Go.IntKind.i64 1)))).bind fun r69 =>
  some (.normal, ⟨((18, r69.1) :: (17, r68.1) :: (93, r67.1) :: (88, r64.1) :: (77, r59.1) :: (prune kp_l11_PtrsLoads (prune kp_l11_PtrsLoads (prune kp_l11_PtrsLoads (prune kp_l11_PtrsLoads (prune kp_l11_PtrsLoads s.env)))))), r69.2⟩)) ((pv r67.2 (binA Try.prog .add 3 (get (prune kp_l11_PtrsLoads (prune kp_l11_PtrsLoads (prune kp_l11_PtrsLoads s.env))) 18) (.v (Go.Value.int Go.IntKind.i64 1)))).bind fun r70 =>
  some (.normal, ⟨((18, r70.1) :: (93, r67.1) :: (88, r64.1) :: (77, r59.1) :: (prune kp_l11_PtrsLoads (prune kp_l11_PtrsLoads (prune kp_l11_PtrsLoads (prune kp_l11_PtrsLoads s.env))))), r70.2⟩)))) (some (.exit 0, ⟨((77, r59.1) :: (prune kp_l11_PtrsLoads s.env)), r59.2⟩))
noncomputable def B_l11_PtrsLoads_0 (_E : FnA) (_n _n0 : Nat) (x18 x17 x73 x16 x15 x14 x13 x12 x11 x10 x9 x8 x7 x6 x3 x0 x1 x2 : AV) (y : Bx) : Option (Ex × S) :=
  (pv y (lenA Try.prog 46 x15)).bind fun r45 =>
  (pv r45.2 (binA Try.prog .lss 3 x18 r45.1)).bind fun r46 =>
  condA r46.1 ((pv r46.2 (indexAddrA Try.prog 46 x15 x18)).bind fun r47 =>
  (pv r47.2 (loadA Try.prog 41 r47.2 r47.1)).bind fun r48 =>
  (pv r48.2 (indexAddrA Try.prog 46 x16 x18)).bind fun r49 =>
  (pv r49.2 (loadA Try.prog 41 r49.2 r49.1)).bind fun r50 =>
  (pv r50.2 (binA Try.prog .neq 41 r48.1 r50.1)).bind fun r51 =>
  condA r51.1 (some (.ret, ⟨[(6, (.v (Go.Value.bool false))), (88, r51.1), (77, r46.1), (18, x18), (17, x17), (73, x73), (16, x16), (15, x15), (14, x14), (13, x13), (12, x12), (11, x11), (10, x10), (9, x9), (8, x8), (7, x7), (6, x6), (3, x3), (0, x0), (1, x1), (2, x2)], r51.2⟩)) ((pv r51.2 (indexAddrA Try.prog 46 x16 x18)).bind fun r52 =>
  (pv r52.2 (loadA Try.prog 41 r52.2 r52.1)).bind fun r53 =>
  (pv r53.2 (binA Try.prog .neq 41 r53.1 (.v (Go.Value.int Go.IntKind.u16 0)))).bind fun r54 =>
  condA r54.1 ((pv r54.2 (binA Try.prog .add 3 x17 (.v (Go.Value.int Go.IntKind.i64 1)))).bind fun r55 =>
  (pv r55.2 (binA Try.prog .add 3 x18 (.v (Go.Value.int Go.IntKind.i64 1)))).bind fun r56 =>
  some (.normal, ⟨[(18, r56.1), (17, r55.1), (93, r54.1), (88, r51.1), (77, r46.1), (18, x18), (17, x17), (73, x73), (16, x16), (15, x15), (14, x14), (13, x13), (12, x12), (11, x11), (10, x10), (9, x9), (8, x8), (7, x7), (6, x6), (3, x3), (0, x0), (1, x1), (2, x2)], r56.2⟩)) ((pv r54.2 (binA Try.prog .add 3 x18 (.v (Go.Value.int Go.IntKind.i64 1)))).bind fun r57 =>
  some (.normal, ⟨[(18, r57.1), (93, r54.1), (88, r51.1), (77, r46.1), (18, x18), (17, x17), (73, x73), (16, x16), (15, x15), (14, x14), (13, x13), (12, x12), (11, x11), (10, x10), (9, x9), (8, x8), (7, x7), (6, x6), (3, x3), (0, x0), (1, x1), (2, x2)], r57.2⟩)))) (some (.exit 0, ⟨[(77, r46.1), (18, x18), (17, x17), (73, x73), (16, x16), (15, x15), (14, x14), (13, x13), (12, x12), (11, x11), (10, x10), (9, x9), (8, x8), (7, x7), (6, x6), (3, x3), (0, x0), (1, x1), (2, x2)], r46.2⟩))
theorem L_l11_PtrsLoads_0_lit {E : FnA} {n n0 : Nat} {x18 x17 x73 x16 x15 x14 x13 x12 x11 x10 x9 x8 x7 x6 x3 x0 x1 x2 : AV} {y : Bx} {Q : Ex → S → Prop} (h : Ends (B_l11_PtrsLoads_0 E n n0 x18 x17 x73 x16 x15 x14 x13 x12 x11 x10 x9 x8 x7 x6 x3 x0 x1 x2 y) Q) : Ends (L_l11_PtrsLoads_0 E n n0 ⟨[(18, x18), (17, x17), (73, x73), (16, x16), (15, x15), (14, x14), (13, x13), (12, x12), (11, x11), (10, x10), (9, x9), (8, x8), (7, x7), (6, x6), (3, x3), (0, x0), (1, x1), (2, x2)], y⟩) Q := by
  rw [show L_l11_PtrsLoads_0 E n n0 ⟨[(18, x18), (17, x17), (73, x73), (16, x16), (15, x15), (14, x14), (13, x13), (12, x12), (11, x11), (10, x10), (9, x9), (8, x8), (7, x7), (6, x6), (3, x3), (0, x0), (1, x1), (2, x2)], y⟩ = B_l11_PtrsLoads_0 E n n0 x18 x17 x73 x16 x15 x14 x13 x12 x11 x10 x9 x8 x7 x6 x3 x0 x1 x2 y by kernel_rfl]
  exact h
noncomputable def K_l11_PtrsLoads_0 (E : FnA) (_n _n0 : Nat) (t : S) : Option (Ex × S) :=
  (pv t.bx (loadA Try.prog 40 t.bx (get t.env 3))).bind fun r76 =>
  (callA E md0 r76.2 21 [r76.1]).bind fun r77 =>
  (pv r77.2 (binA Try.prog .eql 3 r77.1 (get t.env 17))).bind fun r78 =>
  (gsel true r78.2 (callA E md0 r78.2 9 []) r78.1).bind fun r79 =>
  (pv r79.2 (pickA r78.1 r79.1 (.v (Go.Value.bool false)))).bind fun r80 =>
  some (.ret, ⟨((6, r80.1) :: (prune kp_l11_PtrsLoads t.env)), r80.2⟩)
noncomputable def X_l11_PtrsLoads_0 (E : FnA) (_n _n0 : Nat) (i : Nat) (t : S) : Option (Ex × S) :=
  if i = 0 then (pv t.bx (loadA Try.prog 40 t.bx (get t.env 3))).bind fun r71 =>
  (callA E md0 r71.2 21 [r71.1]).bind fun r72 =>
  (pv r72.2 (binA Try.prog .eql 3 r72.1 (get t.env 17))).bind fun r73 =>
  (gsel true r73.2 (callA E md0 r73.2 9 []) r73.1).bind fun r74 =>
  (pv r74.2 (pickA r73.1 r74.1 (.v (Go.Value.bool false)))).bind fun r75 =>
  some (.ret, ⟨((6, r75.1) :: (prune kp_l11_PtrsLoads t.env)), r75.2⟩) else some (.exit i, ⟨t.env, t.bx⟩)
noncomputable def X_l11_PtrsLoads_0_0 (E : FnA) (_n _n0 : Nat) (x77 x18 x17 x73 x16 x15 x14 x13 x12 x11 x10 x9 x8 x7 x6 x3 x0 x1 x2 : AV) (y : Bx) : Option (Ex × S) :=
  (pv y (loadA Try.prog 40 y x3)).bind fun r81 =>
  (callA E md0 r81.2 21 [r81.1]).bind fun r82 =>
  (pv r82.2 (binA Try.prog .eql 3 r82.1 x17)).bind fun r83 =>
  (gsel true r83.2 (callA E md0 r83.2 9 []) r83.1).bind fun r84 =>
  (pv r84.2 (pickA r83.1 r84.1 (.v (Go.Value.bool false)))).bind fun r85 =>
  some (.ret, ⟨[(6, r85.1), (77, x77), (18, x18), (17, x17), (73, x73), (16, x16), (15, x15), (14, x14), (13, x13), (12, x12), (11, x11), (10, x10), (9, x9), (8, x8), (7, x7), (6, x6), (3, x3), (0, x0), (1, x1), (2, x2)], r85.2⟩)
theorem X_l11_PtrsLoads_0_0_lit {E : FnA} {n n0 : Nat} {x77 x18 x17 x73 x16 x15 x14 x13 x12 x11 x10 x9 x8 x7 x6 x3 x0 x1 x2 : AV} {y : Bx} {Q : Ex → S → Prop} (h : Ends (X_l11_PtrsLoads_0_0 E n n0 x77 x18 x17 x73 x16 x15 x14 x13 x12 x11 x10 x9 x8 x7 x6 x3 x0 x1 x2 y) Q) : Ends (X_l11_PtrsLoads_0 E n n0 0 ⟨[(77, x77), (18, x18), (17, x17), (73, x73), (16, x16), (15, x15), (14, x14), (13, x13), (12, x12), (11, x11), (10, x10), (9, x9), (8, x8), (7, x7), (6, x6), (3, x3), (0, x0), (1, x1), (2, x2)], y⟩) Q := by
  rw [show X_l11_PtrsLoads_0 E n n0 0 ⟨[(77, x77), (18, x18), (17, x17), (73, x73), (16, x16), (15, x15), (14, x14), (13, x13), (12, x12), (11, x11), (10, x10), (9, x9), (8, x8), (7, x7), (6, x6), (3, x3), (0, x0), (1, x1), (2, x2)], y⟩ = X_l11_PtrsLoads_0_0 E n n0 x77 x18 x17 x73 x16 x15 x14 x13 x12 x11 x10 x9 x8 x7 x6 x3 x0 x1 x2 y by kernel_rfl]
  exact h
noncomputable def F_l11_PtrsLoads (E : FnA) (n n0 : Nat) (a0 a1 a2 : AV) (bx : Bx) : Option (Ex × S) :=
  (boxA bx a0).bind fun r1 =>
  (pv r1.2 (loadA Try.prog 40 r1.2 r1.1)).bind fun r2 =>
  (callA E md0 r2.2 15 [r2.1, a1]).bind fun r3 =>
  (pv r3.2 (tupA r3.1 0)).bind fun r4 =>
  (pv r4.2 (tupA r3.1 1)).bind fun r5 =>
  (pv r5.2 (loadA Try.prog 40 r5.2 r1.1)).bind fun r6 =>
  (callA E md0 r6.2 16 [r6.1, a1]).bind fun r7 =>
  (pv r7.2 (tupA r7.1 0)).bind fun r8 =>
  (pv r8.2 (tupA r7.1 1)).bind fun r9 =>
  (pv r9.2 (loadA Try.prog 40 r9.2 r1.1)).bind fun r10 =>
  (callA E md0 r10.2 17 [r10.1, a1, a2]).bind fun r11 =>
  (pv r11.2 (tupA r11.1 0)).bind fun r12 =>
  (pv r12.2 (tupA r11.1 1)).bind fun r13 =>
  (allocA Try.prog r13.2 40).bind fun r14 =>
  (stA Try.prog 40 r14.2 r14.1 r12.1).bind fun r15 =>
  (pv r15.2 (loadA Try.prog 40 r15.2 r1.1)).bind fun r16 =>
  (callA E md0 r16.2 18 [r16.1, a1, a2]).bind fun r17 =>
  (pv r17.2 (tupA r17.1 0)).bind fun r18 =>
  (pv r18.2 (tupA r17.1 1)).bind fun r19 =>
  (allocA Try.prog r19.2 40).bind fun r20 =>
  (stA Try.prog 40 r20.2 r20.1 r18.1).bind fun r21 =>
  (pv r21.2 (loadA Try.prog 40 r21.2 r1.1)).bind fun r22 =>
  (callA E md0 r22.2 19 [r22.1]).bind fun r23 =>
  (pv r23.2 (loadA Try.prog 40 r23.2 r1.1)).bind fun r24 =>
  (callA E md0 r24.2 20 [r24.1]).bind fun r25 =>
  (pv r25.2 (binA Try.prog .neq 41 r4.1 r8.1)).bind fun r26 =>
  (gsel false r26.2 (some (r5.1, r26.2)) r26.1).bind fun r27 =>
  (gsel false r27.2 (some (r9.1, r27.2)) r26.1).bind fun r28 =>
  (gsel false r28.2 (pv r28.2 (binA Try.prog .neq 27 r27.1 r28.1)) r26.1).bind fun r29 =>
  (pv r29.2 (pickA r26.1 (.v (Go.Value.bool true)) r29.1)).bind fun r30 =>
  (gsel false r30.2 (pv r30.2 (loadA Try.prog 40 r30.2 r14.1)) r30.1).bind fun r31 =>
  (gsel false r31.2 (pv r31.2 (loadA Try.prog 40 r31.2 r20.1)) r30.1).bind fun r32 =>
  (gsel false r32.2 (pv r32.2 (binA Try.prog .neq 40 r31.1 r32.1)) r30.1).bind fun r33 =>
  (pv r33.2 (pickA r30.1 (.v (Go.Value.bool true)) r33.1)).bind fun r34 =>
  (gsel false r34.2 (some (r13.1, r34.2)) r34.1).bind fun r35 =>
  (gsel false r35.2 (some (r19.1, r35.2)) r34.1).bind fun r36 =>
  (gsel false r36.2 (pv r36.2 (binA Try.prog .neq 27 r35.1 r36.1)) r34.1).bind fun r37 =>
  (pv r37.2 (pickA r34.1 (.v (Go.Value.bool true)) r37.1)).bind fun r38 =>
  (gsel false r38.2 (some (r23.1, r38.2)) r38.1).bind fun r39 =>
  (gsel false r39.2 (pv r39.2 (lenA Try.prog 46 r39.1)) r38.1).bind fun r40 =>
  (gsel false r40.2 (some (r25.1, r40.2)) r38.1).bind fun r41 =>
  (gsel false r41.2 (pv r41.2 (lenA Try.prog 46 r41.1)) r38.1).bind fun r42 =>
  (gsel false r42.2 (pv r42.2 (binA Try.prog .neq 3 r40.1 r42.1)) r38.1).bind fun r43 =>
  (pv r43.2 (pickA r38.1 (.v (Go.Value.bool true)) r43.1)).bind fun r44 =>
  condA r44.1 (some (.ret, ⟨[(6, (.v (Go.Value.bool false))), (73, r44.1), (16, r25.1), (15, r23.1), (14, r19.1), (13, r20.1), (12, r13.1), (11, r14.1), (10, r9.1), (9, r8.1), (8, r5.1), (7, r4.1), (6, (.v (Go.Value.bool false))), (3, r1.1), (0, a0), (1, a1), (2, a2)], r44.2⟩)) (exitA (iter ⟨[(18, (.v (Go.Value.int Go.IntKind.i64 0))), (17, (.v (Go.Value.int Go.IntKind.i64 0))), (73, r44.1), (16, r25.1), (15, r23.1), (14, r19.1), (13, r20.1), (12, r13.1), (11, r14.1), (10, r9.1), (9, r8.1), (8, r5.1), (7, r4.1), (6, (.v (Go.Value.bool false))), (3, r1.1), (0, a0), (1, a1), (2, a2)], r44.2⟩ (L_l11_PtrsLoads_0 E n n0) n ⟨[(18, (.v (Go.Value.int Go.IntKind.i64 0))), (17, (.v (Go.Value.int Go.IntKind.i64 0))), (73, r44.1), (16, r25.1), (15, r23.1), (14, r19.1), (13, r20.1), (12, r13.1), (11, r14.1), (10, r9.1), (9, r8.1), (8, r5.1), (7, r4.1), (6, (.v (Go.Value.bool false))), (3, r1.1), (0, a0), (1, a1), (2, a2)], r44.2⟩) (K_l11_PtrsLoads_0 E n n0) (X_l11_PtrsLoads_0 E n n0))
theorem c_l11_PtrsLoads_eq : Try.f6.body = some c_l11_PtrsLoads := by kernel_rfl
theorem d_l11_PtrsLoads : drawsOk Try.prog md0 c_l11_PtrsLoads = true := by kernel_rfl
theorem F_l11_PtrsLoads_eq (E : FnA) (n n0 : Nat) (a0 a1 a2 : AV) (bx : Bx) : evK Try.prog md0 E 103 kp_l11_PtrsLoads n n0 c_l11_PtrsLoads ⟨[(0, a0), (1, a1), (2, a2)], bx⟩ (fun s => some (.normal, s)) (fun i s => some (.exit i, s)) = F_l11_PtrsLoads E n n0 a0 a1 a2 bx := by kernel_rfl

theorem E_l11_PtrsLoads (n : Nat) (a0 a1 a2 : AV) (bx : Bx) : evFn cx0 ext0 (n + 1) 6 [a0, a1, a2] bx = fin Try.prog [.tmp 6] (F_l11_PtrsLoads (evFn cx0 ext0 n) n bx.length a0 a1 a2 bx) := by
  rw [evFn_eq2 (cx := cx0) (c := c_l11_PtrsLoads) rfl Try.func6 c_l11_PtrsLoads_eq (of_decide_eq_true (by kernel_rfl)) d_l11_PtrsLoads (of_decide_eq_true (by kernel_rfl))]
  exact congrArg (fin Try.prog [.tmp 6]) (F_l11_PtrsLoads_eq (evFn cx0 ext0 n) n bx.length a0 a1 a2 bx)

/-- scupper/ptrs.Blocks -/
def kp_ptrs_Blocks : Option (List Nat) := some [0, 2, 4]
noncomputable def c_ptrs_Blocks : Code := Try.f7.body.getD .skip
noncomputable def F_ptrs_Blocks (_E : FnA) (_n _n0 : Nat) (a0 : AV) (bx : Bx) : Option (Ex × S) :=
  (pv bx (binA Try.prog .leq 3 a0 (.v (Go.Value.int Go.IntKind.i64 0)))).bind fun r1 =>
  condA r1.1 (some (.ret, ⟨[(2, (.v (Go.Value.int Go.IntKind.i64 0))), (4, r1.1), (2, (.v (Go.Value.int Go.IntKind.i64 0))), (0, a0)], r1.2⟩)) ((pv r1.2 (binA Try.prog .sub 3 a0 (.v (Go.Value.int Go.IntKind.i64 1)))).bind fun r2 =>
  (pv r2.2 (binA Try.prog .quo 3 r2.1 (.v (Go.Value.int Go.IntKind.i64 64)))).bind fun r3 =>
  (pv r3.2 (binA Try.prog .add 3 r3.1 (.v (Go.Value.int Go.IntKind.i64 1)))).bind fun r4 =>
  some (.ret, ⟨[(2, r4.1), (4, r1.1), (2, (.v (Go.Value.int Go.IntKind.i64 0))), (0, a0)], r4.2⟩))
theorem c_ptrs_Blocks_eq : Try.f7.body = some c_ptrs_Blocks := by kernel_rfl
theorem d_ptrs_Blocks : drawsOk Try.prog md0 c_ptrs_Blocks = true := by kernel_rfl
theorem F_ptrs_Blocks_eq (E : FnA) (n n0 : Nat) (a0 : AV) (bx : Bx) : evK Try.prog md0 E 9 kp_ptrs_Blocks n n0 c_ptrs_Blocks ⟨[(0, a0)], bx⟩ (fun s => some (.normal, s)) (fun i s => some (.exit i, s)) = F_ptrs_Blocks E n n0 a0 bx := by kernel_rfl

theorem E_ptrs_Blocks (n : Nat) (a0 : AV) (bx : Bx) : evFn cx0 ext0 (n + 1) 7 [a0] bx = fin Try.prog [.tmp 2] (F_ptrs_Blocks (evFn cx0 ext0 n) n bx.length a0 bx) := by
  rw [evFn_eq2 (cx := cx0) (c := c_ptrs_Blocks) rfl Try.func7 c_ptrs_Blocks_eq (of_decide_eq_true (by kernel_rfl)) d_ptrs_Blocks (of_decide_eq_true (by kernel_rfl))]
  exact congrArg (fin Try.prog [.tmp 2]) (F_ptrs_Blocks_eq (evFn cx0 ext0 n) n bx.length a0 bx)

/-- scupper/scupperref11.Blocks -/
def kp_r11_Blocks : Option (List Nat) := some [0, 2, 4]
noncomputable def c_r11_Blocks : Code := Try.f8.body.getD .skip
noncomputable def F_r11_Blocks (_E : FnA) (_n _n0 : Nat) (a0 : AV) (bx : Bx) : Option (Ex × S) :=
  (pv bx (binA Try.prog .leq 3 a0 (.v (Go.Value.int Go.IntKind.i64 0)))).bind fun r1 =>
  condA r1.1 (some (.ret, ⟨[(2, (.v (Go.Value.int Go.IntKind.i64 0))), (4, r1.1), (2, (.v (Go.Value.int Go.IntKind.i64 0))), (0, a0)], r1.2⟩)) ((pv r1.2 (binA Try.prog .sub 3 a0 (.v (Go.Value.int Go.IntKind.i64 1)))).bind fun r2 =>
  (pv r2.2 (binA Try.prog .quo 3 r2.1 (.v (Go.Value.int Go.IntKind.i64 64)))).bind fun r3 =>
  (pv r3.2 (binA Try.prog .add 3 r3.1 (.v (Go.Value.int Go.IntKind.i64 1)))).bind fun r4 =>
  some (.ret, ⟨[(2, r4.1), (4, r1.1), (2, (.v (Go.Value.int Go.IntKind.i64 0))), (0, a0)], r4.2⟩))
theorem c_r11_Blocks_eq : Try.f8.body = some c_r11_Blocks := by kernel_rfl
theorem d_r11_Blocks : drawsOk Try.prog md0 c_r11_Blocks = true := by kernel_rfl
theorem F_r11_Blocks_eq (E : FnA) (n n0 : Nat) (a0 : AV) (bx : Bx) : evK Try.prog md0 E 9 kp_r11_Blocks n n0 c_r11_Blocks ⟨[(0, a0)], bx⟩ (fun s => some (.normal, s)) (fun i s => some (.exit i, s)) = F_r11_Blocks E n n0 a0 bx := by kernel_rfl

theorem E_r11_Blocks (n : Nat) (a0 : AV) (bx : Bx) : evFn cx0 ext0 (n + 1) 8 [a0] bx = fin Try.prog [.tmp 2] (F_r11_Blocks (evFn cx0 ext0 n) n bx.length a0 bx) := by
  rw [evFn_eq2 (cx := cx0) (c := c_r11_Blocks) rfl Try.func8 c_r11_Blocks_eq (of_decide_eq_true (by kernel_rfl)) d_r11_Blocks (of_decide_eq_true (by kernel_rfl))]
  exact congrArg (fin Try.prog [.tmp 2]) (F_r11_Blocks_eq (evFn cx0 ext0 n) n bx.length a0 bx)

/-- scupper/scupperlaw11.works -/
def kp_l11_works : Option (List Nat) := some [0, 1, 2, 3, 4]
noncomputable def c_l11_works : Code := Try.f9.body.getD .skip
noncomputable def F_l11_works (E : FnA) (_n _n0 : Nat) (bx : Bx) : Option (Ex × S) :=
  (callA E md0 bx 10 [(.v (Go.Value.int Go.IntKind.i64 59))]).bind fun r1 =>
  (pv r1.2 (tupA r1.1 0)).bind fun r2 =>
  (pv r2.2 (tupA r1.1 1)).bind fun r3 =>
  (allocA Try.prog r3.2 26).bind fun r4 =>
  (stA Try.prog 26 r4.2 r4.1 r2.1).bind fun r5 =>
  (pv r5.2 (buildA Try.prog 40 [])).bind fun r6 =>
  (callA E md0 r6.2 17 [r6.1, (.v (Go.Value.int Go.IntKind.i64 1)), (.v (Go.Value.int Go.IntKind.u16 258))]).bind fun r7 =>
  (pv r7.2 (tupA r7.1 0)).bind fun r8 =>
  (pv r8.2 (tupA r7.1 1)).bind fun r9 =>
  (allocA Try.prog r9.2 40).bind fun r10 =>
  (stA Try.prog 40 r10.2 r10.1 r8.1).bind fun r11 =>
  (pv r11.2 (loadA Try.prog 26 r11.2 r4.1)).bind fun r12 =>
  (pv r12.2 (buildA Try.prog 26 [(0, (.v (Go.Value.int Go.IntKind.i64 2))), (1, (.v (Go.Value.int Go.IntKind.i64 1))), (2, (.v (Go.Value.int Go.IntKind.i64 1)))])).bind fun r13 =>
  (pv r13.2 (binA Try.prog .eql 26 r12.1 r13.1)).bind fun r14 =>
  (gsel true r14.2 (some (r3.1, r14.2)) r14.1).bind fun r15 =>
  (gsel true r15.2 (pv r15.2 (binA Try.prog .eql 27 r15.1 (.v (Go.Value.int Go.IntKind.i64 0)))) r14.1).bind fun r16 =>
  (pv r16.2 (pickA r14.1 r16.1 (.v (Go.Value.bool false)))).bind fun r17 =>
  (gsel true r17.2 (some (r9.1, r17.2)) r17.1).bind fun r18 =>
  (gsel true r18.2 (pv r18.2 (binA Try.prog .eql 27 r18.1 (.v (Go.Value.int Go.IntKind.i64 0)))) r17.1).bind fun r19 =>
  (pv r19.2 (pickA r17.1 r19.1 (.v (Go.Value.bool false)))).bind fun r20 =>
  (gsel true r20.2 (pv r20.2 (indexAddrA Try.prog 40 r10.1 (.v (Go.Value.int Go.IntKind.i64 2)))) r20.1).bind fun r21 =>
  (gsel true r21.2 (pv r21.2 (loadA Try.prog 5 r21.2 r21.1)) r20.1).bind fun r22 =>
  (gsel true r22.2 (pv r22.2 (binA Try.prog .eql 5 r22.1 (.v (Go.Value.int Go.IntKind.u8 2)))) r20.1).bind fun r23 =>
  (pv r23.2 (pickA r20.1 r23.1 (.v (Go.Value.bool false)))).bind fun r24 =>
  (gsel true r24.2 (pv r24.2 (indexAddrA Try.prog 40 r10.1 (.v (Go.Value.int Go.IntKind.i64 3)))) r24.1).bind fun r25 =>
  (gsel true r25.2 (pv r25.2 (loadA Try.prog 5 r25.2 r25.1)) r24.1).bind fun r26 =>
  (gsel true r26.2 (pv r26.2 (binA Try.prog .eql 5 r26.1 (.v (Go.Value.int Go.IntKind.u8 1)))) r24.1).bind fun r27 =>
  (pv r27.2 (pickA r24.1 r27.1 (.v (Go.Value.bool false)))).bind fun r28 =>
  some (.ret, ⟨[(0, r28.1), (4, r9.1), (3, r10.1), (2, r3.1), (1, r4.1), (0, (.v (Go.Value.bool false)))], r28.2⟩)
theorem c_l11_works_eq : Try.f9.body = some c_l11_works := by kernel_rfl
theorem d_l11_works : drawsOk Try.prog md0 c_l11_works = true := by kernel_rfl
theorem F_l11_works_eq (E : FnA) (n n0 : Nat) (bx : Bx) : evK Try.prog md0 E 35 kp_l11_works n n0 c_l11_works ⟨[], bx⟩ (fun s => some (.normal, s)) (fun i s => some (.exit i, s)) = F_l11_works E n n0  bx := by kernel_rfl

theorem E_l11_works (n : Nat) (bx : Bx) : evFn cx0 ext0 (n + 1) 9 [] bx = fin Try.prog [.tmp 0] (F_l11_works (evFn cx0 ext0 n) n bx.length  bx) := by
  rw [evFn_eq2 (cx := cx0) (c := c_l11_works) rfl Try.func9 c_l11_works_eq (of_decide_eq_true (by kernel_rfl)) d_l11_works (of_decide_eq_true (by kernel_rfl))]
  exact congrArg (fin Try.prog [.tmp 0]) (F_l11_works_eq (evFn cx0 ext0 n) n bx.length  bx)

/-- scupper/ptrs.To -/
def kp_ptrs_To : Option (List Nat) := some [0, 2, 3, 4, 12, 17]
noncomputable def c_ptrs_To : Code := Try.f10.body.getD .skip
noncomputable def F_ptrs_To (_E : FnA) (_n _n0 : Nat) (a0 : AV) (bx : Bx) : Option (Ex × S) :=
  (allocA Try.prog bx 26).bind fun r1 =>
  (pv r1.2 (binA Try.prog .lss 3 a0 (.v (Go.Value.int Go.IntKind.i64 0)))).bind fun r2 =>
  (gsel false r2.2 (some (a0, r2.2)) r2.1).bind fun r3 =>
  (gsel false r3.2 (pv r3.2 (binA Try.prog .geq 3 r3.1 (.v (Go.Value.int Go.IntKind.i64 760)))) r2.1).bind fun r4 =>
  (pv r4.2 (pickA r2.1 (.v (Go.Value.bool true)) r4.1)).bind fun r5 =>
  condA r5.1 ((pv r5.2 (buildA Try.prog 26 [])).bind fun r6 =>
  (stA Try.prog 26 r6.2 r1.1 r6.1).bind fun r7 =>
  some (.ret, ⟨[(3, (.v (Go.Value.int Go.IntKind.i64 31))), (4, r5.1), (3, (.v (Go.Value.int Go.IntKind.i64 0))), (2, r1.1), (0, a0)], r7.2⟩)) ((pv r5.2 (binA Try.prog .lss 3 a0 (.v (Go.Value.int Go.IntKind.i64 4)))).bind fun r8 =>
  condA r8.1 ((pv r8.2 (buildA Try.prog 26 [(1, a0)])).bind fun r9 =>
  (stA Try.prog 26 r9.2 r1.1 r9.1).bind fun r10 =>
  some (.ret, ⟨[(3, (.v (Go.Value.int Go.IntKind.i64 0))), (12, r8.1), (4, r5.1), (3, (.v (Go.Value.int Go.IntKind.i64 0))), (2, r1.1), (0, a0)], r10.2⟩)) ((pv r8.2 (binA Try.prog .lss 3 a0 (.v (Go.Value.int Go.IntKind.i64 31)))).bind fun r11 =>
  condA r11.1 ((pv r11.2 (binA Try.prog .sub 3 a0 (.v (Go.Value.int Go.IntKind.i64 4)))).bind fun r12 =>
  (pv r12.2 (buildA Try.prog 26 [(0, (.v (Go.Value.int Go.IntKind.i64 1))), (1, r12.1)])).bind fun r13 =>
  (stA Try.prog 26 r13.2 r1.1 r13.1).bind fun r14 =>
  some (.ret, ⟨[(3, (.v (Go.Value.int Go.IntKind.i64 0))), (17, r11.1), (12, r8.1), (4, r5.1), (3, (.v (Go.Value.int Go.IntKind.i64 0))), (2, r1.1), (0, a0)], r14.2⟩)) ((pv r11.2 (binA Try.prog .sub 3 a0 (.v (Go.Value.int Go.IntKind.i64 31)))).bind fun r15 =>
  (pv r15.2 (binA Try.prog .quo 3 r15.1 (.v (Go.Value.int Go.IntKind.i64 27)))).bind fun r16 =>
  (pv r16.2 (binA Try.prog .rem 3 r15.1 (.v (Go.Value.int Go.IntKind.i64 27)))).bind fun r17 =>
  (pv r17.2 (buildA Try.prog 26 [(0, (.v (Go.Value.int Go.IntKind.i64 2))), (1, r16.1), (2, r17.1)])).bind fun r18 =>
  (stA Try.prog 26 r18.2 r1.1 r18.1).bind fun r19 =>
  some (.ret, ⟨[(3, (.v (Go.Value.int Go.IntKind.i64 0))), (0, r15.1), (17, r11.1), (12, r8.1), (4, r5.1), (3, (.v (Go.Value.int Go.IntKind.i64 0))), (2, r1.1), (0, a0)], r19.2⟩))))
theorem c_ptrs_To_eq : Try.f10.body = some c_ptrs_To := by kernel_rfl
theorem d_ptrs_To : drawsOk Try.prog md0 c_ptrs_To = true := by kernel_rfl
theorem F_ptrs_To_eq (E : FnA) (n n0 : Nat) (a0 : AV) (bx : Bx) : evK Try.prog md0 E 30 kp_ptrs_To n n0 c_ptrs_To ⟨[(0, a0)], bx⟩ (fun s => some (.normal, s)) (fun i s => some (.exit i, s)) = F_ptrs_To E n n0 a0 bx := by kernel_rfl

theorem E_ptrs_To (n : Nat) (a0 : AV) (bx : Bx) : evFn cx0 ext0 (n + 1) 10 [a0] bx = fin Try.prog [.cell 2 26, .tmp 3] (F_ptrs_To (evFn cx0 ext0 n) n bx.length a0 bx) := by
  rw [evFn_eq2 (cx := cx0) (c := c_ptrs_To) rfl Try.func10 c_ptrs_To_eq (of_decide_eq_true (by kernel_rfl)) d_ptrs_To (of_decide_eq_true (by kernel_rfl))]
  exact congrArg (fin Try.prog [.cell 2 26, .tmp 3]) (F_ptrs_To_eq (evFn cx0 ext0 n) n bx.length a0 bx)

/-- scupper/scupperref11.To -/
def kp_r11_To : Option (List Nat) := some [0, 2, 3, 9, 12, 16]
noncomputable def c_r11_To : Code := Try.f11.body.getD .skip
noncomputable def F_r11_To (_E : FnA) (_n _n0 : Nat) (a0 : AV) (bx : Bx) : Option (Ex × S) :=
  (allocA Try.prog bx 30).bind fun r1 =>
  (pv r1.2 (binA Try.prog .lss 3 a0 (.v (Go.Value.int Go.IntKind.i64 0)))).bind fun r2 =>
  (gsel false r2.2 (some (a0, r2.2)) r2.1).bind fun r3 =>
  (gsel false r3.2 (pv r3.2 (binA Try.prog .geq 3 r3.1 (.v (Go.Value.int Go.IntKind.i64 760)))) r2.1).bind fun r4 =>
  (pv r4.2 (pickA r2.1 (.v (Go.Value.bool true)) r4.1)).bind fun r5 =>
  condA r5.1 ((pv r5.2 (buildA Try.prog 30 [])).bind fun r6 =>
  (stA Try.prog 30 r6.2 r1.1 r6.1).bind fun r7 =>
  some (.ret, ⟨[(3, (.v (Go.Value.int Go.IntKind.i64 31))), (9, r5.1), (3, (.v (Go.Value.int Go.IntKind.i64 0))), (2, r1.1), (0, a0)], r7.2⟩)) ((pv r5.2 (binA Try.prog .lss 3 a0 (.v (Go.Value.int Go.IntKind.i64 4)))).bind fun r8 =>
  condA r8.1 ((pv r8.2 (buildA Try.prog 30 [(0, (.v (Go.Value.int Go.IntKind.i64 0))), (1, a0), (2, (.v (Go.Value.int Go.IntKind.i64 0)))])).bind fun r9 =>
  (stA Try.prog 30 r9.2 r1.1 r9.1).bind fun r10 =>
  some (.ret, ⟨[(3, (.v (Go.Value.int Go.IntKind.i64 0))), (12, r8.1), (9, r5.1), (3, (.v (Go.Value.int Go.IntKind.i64 0))), (2, r1.1), (0, a0)], r10.2⟩)) ((pv r8.2 (binA Try.prog .lss 3 a0 (.v (Go.Value.int Go.IntKind.i64 31)))).bind fun r11 =>
  condA r11.1 ((pv r11.2 (binA Try.prog .sub 3 a0 (.v (Go.Value.int Go.IntKind.i64 4)))).bind fun r12 =>
  (pv r12.2 (buildA Try.prog 30 [(0, (.v (Go.Value.int Go.IntKind.i64 1))), (1, r12.1), (2, (.v (Go.Value.int Go.IntKind.i64 0)))])).bind fun r13 =>
  (stA Try.prog 30 r13.2 r1.1 r13.1).bind fun r14 =>
  some (.ret, ⟨[(3, (.v (Go.Value.int Go.IntKind.i64 0))), (16, r11.1), (12, r8.1), (9, r5.1), (3, (.v (Go.Value.int Go.IntKind.i64 0))), (2, r1.1), (0, a0)], r14.2⟩)) ((pv r11.2 (binA Try.prog .sub 3 a0 (.v (Go.Value.int Go.IntKind.i64 31)))).bind fun r15 =>
  (pv r15.2 (binA Try.prog .quo 3 r15.1 (.v (Go.Value.int Go.IntKind.i64 27)))).bind fun r16 =>
  (pv r16.2 (binA Try.prog .sub 3 a0 (.v (Go.Value.int Go.IntKind.i64 31)))).bind fun r17 =>
  (pv r17.2 (binA Try.prog .rem 3 r17.1 (.v (Go.Value.int Go.IntKind.i64 27)))).bind fun r18 =>
  (pv r18.2 (buildA Try.prog 30 [(0, (.v (Go.Value.int Go.IntKind.i64 2))), (1, r16.1), (2, r18.1)])).bind fun r19 =>
  (stA Try.prog 30 r19.2 r1.1 r19.1).bind fun r20 =>
  some (.ret, ⟨[(3, (.v (Go.Value.int Go.IntKind.i64 0))), (16, r11.1), (12, r8.1), (9, r5.1), (3, (.v (Go.Value.int Go.IntKind.i64 0))), (2, r1.1), (0, a0)], r20.2⟩))))
theorem c_r11_To_eq : Try.f11.body = some c_r11_To := by kernel_rfl
theorem d_r11_To : drawsOk Try.prog md0 c_r11_To = true := by kernel_rfl
theorem F_r11_To_eq (E : FnA) (n n0 : Nat) (a0 : AV) (bx : Bx) : evK Try.prog md0 E 27 kp_r11_To n n0 c_r11_To ⟨[(0, a0)], bx⟩ (fun s => some (.normal, s)) (fun i s => some (.exit i, s)) = F_r11_To E n n0 a0 bx := by kernel_rfl

theorem E_r11_To (n : Nat) (a0 : AV) (bx : Bx) : evFn cx0 ext0 (n + 1) 11 [a0] bx = fin Try.prog [.cell 2 30, .tmp 3] (F_r11_To (evFn cx0 ext0 n) n bx.length a0 bx) := by
  rw [evFn_eq2 (cx := cx0) (c := c_r11_To) rfl Try.func11 c_r11_To_eq (of_decide_eq_true (by kernel_rfl)) d_r11_To (of_decide_eq_true (by kernel_rfl))]
  exact congrArg (fin Try.prog [.cell 2 30, .tmp 3]) (F_r11_To_eq (evFn cx0 ext0 n) n bx.length a0 bx)

/-- scupper/ptrs.Block -/
def kp_ptrs_Block : Option (List Nat) := some [0, 1, 2, 3, 4, 5, 6, 20, 24, 25, 29, 49]
noncomputable def c_ptrs_Block : Code := Try.f12.body.getD .skip
noncomputable def F_ptrs_Block (E : FnA) (_n _n0 : Nat) (a0 : AV) (bx : Bx) : Option (Ex × S) :=
  (boxA bx a0).bind fun r1 =>
  (pv r1.2 (fieldAddrA Try.prog 26 r1.1 1)).bind fun r2 =>
  (pv r2.2 (loadA Try.prog 3 r2.2 r2.1)).bind fun r3 =>
  (pv r3.2 (binA Try.prog .lss 3 r3.1 (.v (Go.Value.int Go.IntKind.i64 0)))).bind fun r4 =>
  (gsel false r4.2 (pv r4.2 (fieldAddrA Try.prog 26 r1.1 1)) r4.1).bind fun r5 =>
  (gsel false r5.2 (pv r5.2 (loadA Try.prog 3 r5.2 r5.1)) r4.1).bind fun r6 =>
  (gsel false r6.2 (pv r6.2 (binA Try.prog .geq 3 r6.1 (.v (Go.Value.int Go.IntKind.i64 27)))) r4.1).bind fun r7 =>
  (pv r7.2 (pickA r4.1 (.v (Go.Value.bool true)) r7.1)).bind fun r8 =>
  (gsel false r8.2 (pv r8.2 (fieldAddrA Try.prog 26 r1.1 2)) r8.1).bind fun r9 =>
  (gsel false r9.2 (pv r9.2 (loadA Try.prog 3 r9.2 r9.1)) r8.1).bind fun r10 =>
  (gsel false r10.2 (callA E md0 r10.2 22 [r10.1]) r8.1).bind fun r11 =>
  (gsel false r11.2 (pv r11.2 (unA .not r11.1)) r8.1).bind fun r12 =>
  (pv r12.2 (pickA r8.1 (.v (Go.Value.bool true)) r12.1)).bind fun r13 =>
  condA r13.1 (some (.ret, ⟨[(3, (.v (Go.Value.int Go.IntKind.i64 2))), (2, (.v (Go.Value.int Go.IntKind.i64 0))), (20, r13.1), (3, (.v (Go.Value.int Go.IntKind.i64 0))), (2, (.v (Go.Value.int Go.IntKind.i64 0))), (1, r1.1), (0, a0)], r13.2⟩)) ((pv r13.2 (fieldAddrA Try.prog 26 r1.1 1)).bind fun r14 =>
  (pv r14.2 (loadA Try.prog 3 r14.2 r14.1)).bind fun r15 =>
  (pv r15.2 (fieldAddrA Try.prog 26 r1.1 0)).bind fun r16 =>
  (pv r16.2 (loadA Try.prog 3 r16.2 r16.1)).bind fun r17 =>
  (pv r17.2 (binA Try.prog .eql 3 r17.1 (.v (Go.Value.int Go.IntKind.i64 1)))).bind fun r18 =>
  condA r18.1 ((pv r18.2 (binA Try.prog .add 3 r15.1 (.v (Go.Value.int Go.IntKind.i64 4)))).bind fun r19 =>
  (callA E md0 r19.2 10 [r19.1]).bind fun r20 =>
  (pv r20.2 (tupA r20.1 0)).bind fun r21 =>
  (pv r21.2 (tupA r20.1 1)).bind fun r22 =>
  (allocA Try.prog r22.2 26).bind fun r23 =>
  (stA Try.prog 26 r23.2 r23.1 r21.1).bind fun r24 =>
  (pv r24.2 (binA Try.prog .neq 27 r22.1 (.v (Go.Value.int Go.IntKind.i64 0)))).bind fun r25 =>
  (gsel false r25.2 (pv r25.2 (loadA Try.prog 26 r25.2 r23.1)) r25.1).bind fun r26 =>
  (gsel false r26.2 (pv r26.2 (loadA Try.prog 26 r26.2 r1.1)) r25.1).bind fun r27 =>
  (gsel false r27.2 (pv r27.2 (binA Try.prog .neq 26 r26.1 r27.1)) r25.1).bind fun r28 =>
  (pv r28.2 (pickA r25.1 (.v (Go.Value.bool true)) r28.1)).bind fun r29 =>
  condA r29.1 (some (.ret, ⟨[(3, (.v (Go.Value.int Go.IntKind.i64 2))), (2, (.v (Go.Value.int Go.IntKind.i64 0))), (49, r29.1), (6, r22.1), (5, r23.1), (4, r19.1), (25, r18.1), (24, r17.1), (4, r15.1), (20, r13.1), (3, (.v (Go.Value.int Go.IntKind.i64 0))), (2, (.v (Go.Value.int Go.IntKind.i64 0))), (1, r1.1), (0, a0)], r29.2⟩)) (some (.ret, ⟨[(3, (.v (Go.Value.int Go.IntKind.i64 0))), (2, r19.1), (49, r29.1), (6, r22.1), (5, r23.1), (4, r19.1), (25, r18.1), (24, r17.1), (4, r15.1), (20, r13.1), (3, (.v (Go.Value.int Go.IntKind.i64 0))), (2, (.v (Go.Value.int Go.IntKind.i64 0))), (1, r1.1), (0, a0)], r29.2⟩))) ((pv r18.2 (binA Try.prog .eql 3 r17.1 (.v (Go.Value.int Go.IntKind.i64 2)))).bind fun r30 =>
  condA r30.1 ((pv r30.2 (fieldAddrA Try.prog 26 r1.1 1)).bind fun r31 =>
  (pv r31.2 (loadA Try.prog 3 r31.2 r31.1)).bind fun r32 =>
  (pv r32.2 (binA Try.prog .mul 3 (.v (Go.Value.int Go.IntKind.i64 27)) r32.1)).bind fun r33 =>
  (pv r33.2 (binA Try.prog .add 3 (.v (Go.Value.int Go.IntKind.i64 31)) r33.1)).bind fun r34 =>
  (pv r34.2 (fieldAddrA Try.prog 26 r1.1 2)).bind fun r35 =>
  (pv r35.2 (loadA Try.prog 3 r35.2 r35.1)).bind fun r36 =>
  (pv r36.2 (binA Try.prog .add 3 r34.1 r36.1)).bind fun r37 =>
  (callA E md0 r37.2 10 [r37.1]).bind fun r38 =>
  (pv r38.2 (tupA r38.1 0)).bind fun r39 =>
  (pv r39.2 (tupA r38.1 1)).bind fun r40 =>
  (allocA Try.prog r40.2 26).bind fun r41 =>
  (stA Try.prog 26 r41.2 r41.1 r39.1).bind fun r42 =>
  (pv r42.2 (binA Try.prog .neq 27 r40.1 (.v (Go.Value.int Go.IntKind.i64 0)))).bind fun r43 =>
  (gsel false r43.2 (pv r43.2 (loadA Try.prog 26 r43.2 r41.1)) r43.1).bind fun r44 =>
  (gsel false r44.2 (pv r44.2 (loadA Try.prog 26 r44.2 r1.1)) r43.1).bind fun r45 =>
  (gsel false r45.2 (pv r45.2 (binA Try.prog .neq 26 r44.1 r45.1)) r43.1).bind fun r46 =>
  (pv r46.2 (pickA r43.1 (.v (Go.Value.bool true)) r46.1)).bind fun r47 =>
  condA r47.1 (some (.ret, ⟨[(3, (.v (Go.Value.int Go.IntKind.i64 2))), (2, (.v (Go.Value.int Go.IntKind.i64 0))), (49, r47.1), (6, r40.1), (5, r41.1), (4, r37.1), (29, r30.1), (25, r18.1), (24, r17.1), (4, r15.1), (20, r13.1), (3, (.v (Go.Value.int Go.IntKind.i64 0))), (2, (.v (Go.Value.int Go.IntKind.i64 0))), (1, r1.1), (0, a0)], r47.2⟩)) (some (.ret, ⟨[(3, (.v (Go.Value.int Go.IntKind.i64 0))), (2, r37.1), (49, r47.1), (6, r40.1), (5, r41.1), (4, r37.1), (29, r30.1), (25, r18.1), (24, r17.1), (4, r15.1), (20, r13.1), (3, (.v (Go.Value.int Go.IntKind.i64 0))), (2, (.v (Go.Value.int Go.IntKind.i64 0))), (1, r1.1), (0, a0)], r47.2⟩))) ((callA E md0 r30.2 10 [r15.1]).bind fun r48 =>
  (pv r48.2 (tupA r48.1 0)).bind fun r49 =>
  (pv r49.2 (tupA r48.1 1)).bind fun r50 =>
  (allocA Try.prog r50.2 26).bind fun r51 =>
  (stA Try.prog 26 r51.2 r51.1 r49.1).bind fun r52 =>
  (pv r52.2 (binA Try.prog .neq 27 r50.1 (.v (Go.Value.int Go.IntKind.i64 0)))).bind fun r53 =>
  (gsel false r53.2 (pv r53.2 (loadA Try.prog 26 r53.2 r51.1)) r53.1).bind fun r54 =>
  (gsel false r54.2 (pv r54.2 (loadA Try.prog 26 r54.2 r1.1)) r53.1).bind fun r55 =>
  (gsel false r55.2 (pv r55.2 (binA Try.prog .neq 26 r54.1 r55.1)) r53.1).bind fun r56 =>
  (pv r56.2 (pickA r53.1 (.v (Go.Value.bool true)) r56.1)).bind fun r57 =>
  condA r57.1 (some (.ret, ⟨[(3, (.v (Go.Value.int Go.IntKind.i64 2))), (2, (.v (Go.Value.int Go.IntKind.i64 0))), (49, r57.1), (6, r50.1), (5, r51.1), (29, r30.1), (25, r18.1), (24, r17.1), (4, r15.1), (20, r13.1), (3, (.v (Go.Value.int Go.IntKind.i64 0))), (2, (.v (Go.Value.int Go.IntKind.i64 0))), (1, r1.1), (0, a0)], r57.2⟩)) (some (.ret, ⟨[(3, (.v (Go.Value.int Go.IntKind.i64 0))), (2, r15.1), (49, r57.1), (6, r50.1), (5, r51.1), (29, r30.1), (25, r18.1), (24, r17.1), (4, r15.1), (20, r13.1), (3, (.v (Go.Value.int Go.IntKind.i64 0))), (2, (.v (Go.Value.int Go.IntKind.i64 0))), (1, r1.1), (0, a0)], r57.2⟩)))))
theorem c_ptrs_Block_eq : Try.f12.body = some c_ptrs_Block := by kernel_rfl
theorem d_ptrs_Block : drawsOk Try.prog md0 c_ptrs_Block = true := by kernel_rfl
theorem F_ptrs_Block_eq (E : FnA) (n n0 : Nat) (a0 : AV) (bx : Bx) : evK Try.prog md0 E 51 kp_ptrs_Block n n0 c_ptrs_Block ⟨[(0, a0)], bx⟩ (fun s => some (.normal, s)) (fun i s => some (.exit i, s)) = F_ptrs_Block E n n0 a0 bx := by kernel_rfl

theorem E_ptrs_Block (n : Nat) (a0 : AV) (bx : Bx) : evFn cx0 ext0 (n + 1) 12 [a0] bx = fin Try.prog [.tmp 2, .tmp 3] (F_ptrs_Block (evFn cx0 ext0 n) n bx.length a0 bx) := by
  rw [evFn_eq2 (cx := cx0) (c := c_ptrs_Block) rfl Try.func12 c_ptrs_Block_eq (of_decide_eq_true (by kernel_rfl)) d_ptrs_Block (of_decide_eq_true (by kernel_rfl))]
  exact congrArg (fin Try.prog [.tmp 2, .tmp 3]) (F_ptrs_Block_eq (evFn cx0 ext0 n) n bx.length a0 bx)

/-- scupper/scupperref11.Block -/
def kp_r11_Block : Option (List Nat) := some [0, 1, 2, 3, 4, 5, 8, 18]
noncomputable def c_r11_Block : Code := Try.f13.body.getD .skip
noncomputable def L_r11_Block_0 (E : FnA) (_n _n0 : Nat) (s : S) : Option (Ex × S) :=
  (pv s.bx (binA Try.prog .lss 3 (get s.env 4) (.v (Go.Value.int Go.IntKind.i64 760)))).bind fun r12 =>
  condA r12.1 ((callA E md0 r12.2 11 [(get (prune kp_r11_Block s.env) 4)]).bind fun r13 =>
  (pv r13.2 (tupA r13.1 0)).bind fun r14 =>
  (pv r14.2 (tupA r13.1 1)).bind fun r15 =>
  (allocA Try.prog r15.2 30).bind fun r16 =>
  (stA Try.prog 30 r16.2 r16.1 r14.1).bind fun r17 =>
  (pv r17.2 (loadA Try.prog 30 r17.2 r16.1)).bind fun r18 =>
  (pv r18.2 (loadA Try.prog 30 r18.2 (get (prune kp_r11_Block (prune kp_r11_Block s.env)) 1))).bind fun r19 =>
  (pv r19.2 (binA Try.prog .eql 30 r18.1 r19.1)).bind fun r20 =>
  condA r20.1 (some (.ret, ⟨((3, (.v (Go.Value.int Go.IntKind.i64 0))) :: (2, (get (prune kp_r11_Block (prune kp_r11_Block (prune kp_r11_Block s.env))) 4)) :: (18, r20.1) :: (5, r16.1) :: (8, r12.1) :: (prune kp_r11_Block (prune kp_r11_Block (prune kp_r11_Block (prune kp_r11_Block s.env))))), r20.2⟩)) ((pv r20.2 (binA Try.prog .add 3 (get (prune kp_r11_Block (prune kp_r11_Block (prune kp_r11_Block s.env))) 4) (.v (Go.Value.int Go.IntKind.i64 1)))).bind fun r21 =>
  some (.normal, ⟨((4, r21.1) :: (18, r20.1) :: (5, r16.1) :: (8, r12.1) :: (prune kp_r11_Block (prune kp_r11_Block (prune kp_r11_Block (prune kp_r11_Block s.env))))), r21.2⟩))) (some (.exit 0, ⟨((8, r12.1) :: (prune kp_r11_Block s.env)), r12.2⟩))
noncomputable def B_r11_Block_0 (E : FnA) (_n _n0 : Nat) (x4 x3 x2 x1 x0 : AV) (y : Bx) : Option (Ex × S) :=
  (pv y (binA Try.prog .lss 3 x4 (.v (Go.Value.int Go.IntKind.i64 760)))).bind fun r2 =>
  condA r2.1 ((callA E md0 r2.2 11 [x4]).bind fun r3 =>
  (pv r3.2 (tupA r3.1 0)).bind fun r4 =>
  (pv r4.2 (tupA r3.1 1)).bind fun r5 =>
  (allocA Try.prog r5.2 30).bind fun r6 =>
  (stA Try.prog 30 r6.2 r6.1 r4.1).bind fun r7 =>
  (pv r7.2 (loadA Try.prog 30 r7.2 r6.1)).bind fun r8 =>
  (pv r8.2 (loadA Try.prog 30 r8.2 x1)).bind fun r9 =>
  (pv r9.2 (binA Try.prog .eql 30 r8.1 r9.1)).bind fun r10 =>
  condA r10.1 (some (.ret, ⟨[(3, (.v (Go.Value.int Go.IntKind.i64 0))), (2, x4), (18, r10.1), (5, r6.1), (8, r2.1), (4, x4), (3, x3), (2, x2), (1, x1), (0, x0)], r10.2⟩)) ((pv r10.2 (binA Try.prog .add 3 x4 (.v (Go.Value.int Go.IntKind.i64 1)))).bind fun r11 =>
  some (.normal, ⟨[(4, r11.1), (18, r10.1), (5, r6.1), (8, r2.1), (4, x4), (3, x3), (2, x2), (1, x1), (0, x0)], r11.2⟩))) (some (.exit 0, ⟨[(8, r2.1), (4, x4), (3, x3), (2, x2), (1, x1), (0, x0)], r2.2⟩))
theorem L_r11_Block_0_lit {E : FnA} {n n0 : Nat} {x4 x3 x2 x1 x0 : AV} {y : Bx} {Q : Ex → S → Prop} (h : Ends (B_r11_Block_0 E n n0 x4 x3 x2 x1 x0 y) Q) : Ends (L_r11_Block_0 E n n0 ⟨[(4, x4), (3, x3), (2, x2), (1, x1), (0, x0)], y⟩) Q := by
  rw [show L_r11_Block_0 E n n0 ⟨[(4, x4), (3, x3), (2, x2), (1, x1), (0, x0)], y⟩ = B_r11_Block_0 E n n0 x4 x3 x2 x1 x0 y by kernel_rfl]
  exact h
noncomputable def K_r11_Block_0 (_E : FnA) (_n _n0 : Nat) (t : S) : Option (Ex × S) :=
  some (.ret, ⟨((3, (.v (Go.Value.int Go.IntKind.i64 2))) :: (2, (.v (Go.Value.int Go.IntKind.i64 0))) :: (prune kp_r11_Block t.env)), t.bx⟩)
noncomputable def X_r11_Block_0 (_E : FnA) (_n _n0 : Nat) (i : Nat) (t : S) : Option (Ex × S) :=
  if i = 0 then some (.ret, ⟨((3, (.v (Go.Value.int Go.IntKind.i64 2))) :: (2, (.v (Go.Value.int Go.IntKind.i64 0))) :: (prune kp_r11_Block t.env)), t.bx⟩) else some (.exit i, ⟨t.env, t.bx⟩)
noncomputable def X_r11_Block_0_0 (_E : FnA) (_n _n0 : Nat) (x8 x4 x3 x2 x1 x0 : AV) (y : Bx) : Option (Ex × S) :=
  some (.ret, ⟨[(3, (.v (Go.Value.int Go.IntKind.i64 2))), (2, (.v (Go.Value.int Go.IntKind.i64 0))), (8, x8), (4, x4), (3, x3), (2, x2), (1, x1), (0, x0)], y⟩)
theorem X_r11_Block_0_0_lit {E : FnA} {n n0 : Nat} {x8 x4 x3 x2 x1 x0 : AV} {y : Bx} {Q : Ex → S → Prop} (h : Ends (X_r11_Block_0_0 E n n0 x8 x4 x3 x2 x1 x0 y) Q) : Ends (X_r11_Block_0 E n n0 0 ⟨[(8, x8), (4, x4), (3, x3), (2, x2), (1, x1), (0, x0)], y⟩) Q := by
  rw [show X_r11_Block_0 E n n0 0 ⟨[(8, x8), (4, x4), (3, x3), (2, x2), (1, x1), (0, x0)], y⟩ = X_r11_Block_0_0 E n n0 x8 x4 x3 x2 x1 x0 y by kernel_rfl]
  exact h
noncomputable def F_r11_Block (E : FnA) (n n0 : Nat) (a0 : AV) (bx : Bx) : Option (Ex × S) :=
  (boxA bx a0).bind fun r1 =>
  exitA (iter ⟨[(4, (.v (Go.Value.int Go.IntKind.i64 0))), (3, (.v (Go.Value.int Go.IntKind.i64 0))), (2, (.v (Go.Value.int Go.IntKind.i64 0))), (1, r1.1), (0, a0)], r1.2⟩ (L_r11_Block_0 E n n0) n ⟨[(4, (.v (Go.Value.int Go.IntKind.i64 0))), (3, (.v (Go.Value.int Go.IntKind.i64 0))), (2, (.v (Go.Value.int Go.IntKind.i64 0))), (1, r1.1), (0, a0)], r1.2⟩) (K_r11_Block_0 E n n0) (X_r11_Block_0 E n n0)
theorem c_r11_Block_eq : Try.f13.body = some c_r11_Block := by kernel_rfl
theorem d_r11_Block : drawsOk Try.prog md0 c_r11_Block = true := by kernel_rfl
theorem F_r11_Block_eq (E : FnA) (n n0 : Nat) (a0 : AV) (bx : Bx) : evK Try.prog md0 E 20 kp_r11_Block n n0 c_r11_Block ⟨[(0, a0)], bx⟩ (fun s => some (.normal, s)) (fun i s => some (.exit i, s)) = F_r11_Block E n n0 a0 bx := by kernel_rfl

theorem E_r11_Block (n : Nat) (a0 : AV) (bx : Bx) : evFn cx0 ext0 (n + 1) 13 [a0] bx = fin Try.prog [.tmp 2, .tmp 3] (F_r11_Block (evFn cx0 ext0 n) n bx.length a0 bx) := by
  rw [evFn_eq2 (cx := cx0) (c := c_r11_Block) rfl Try.func13 c_r11_Block_eq (of_decide_eq_true (by kernel_rfl)) d_r11_Block (of_decide_eq_true (by kernel_rfl))]
  exact congrArg (fin Try.prog [.tmp 2, .tmp 3]) (F_r11_Block_eq (evFn cx0 ext0 n) n bx.length a0 bx)

/-- scupper/scupperbase.Among -/
def kp_base_Among : Option (List Nat) := some [0, 1, 4, 6]
noncomputable def c_base_Among : Code := Try.f14.body.getD .skip
noncomputable def F_base_Among (_E : FnA) (_n _n0 : Nat) (a0 a1 : AV) (bx : Bx) : Option (Ex × S) :=
  (pv bx (binA Try.prog .lss 3 a1 (.v (Go.Value.int Go.IntKind.i64 1)))).bind fun r1 =>
  condA r1.1 (some (.ret, ⟨[(4, (.v (Go.Value.int Go.IntKind.i64 0))), (6, r1.1), (4, (.v (Go.Value.int Go.IntKind.i64 0))), (0, a0), (1, a1)], r1.2⟩)) ((convA Try.prog r1.2 3 50 a0).bind fun r2 =>
  (convA Try.prog r2.2 3 50 a1).bind fun r3 =>
  (pv r3.2 (binA Try.prog .rem 50 r2.1 r3.1)).bind fun r4 =>
  (convA Try.prog r4.2 50 3 r4.1).bind fun r5 =>
  some (.ret, ⟨[(4, r5.1), (6, r1.1), (4, (.v (Go.Value.int Go.IntKind.i64 0))), (0, a0), (1, a1)], r5.2⟩))
theorem c_base_Among_eq : Try.f14.body = some c_base_Among := by kernel_rfl
theorem d_base_Among : drawsOk Try.prog md0 c_base_Among = true := by kernel_rfl
theorem F_base_Among_eq (E : FnA) (n n0 : Nat) (a0 a1 : AV) (bx : Bx) : evK Try.prog md0 E 13 kp_base_Among n n0 c_base_Among ⟨[(0, a0), (1, a1)], bx⟩ (fun s => some (.normal, s)) (fun i s => some (.exit i, s)) = F_base_Among E n n0 a0 a1 bx := by kernel_rfl

theorem E_base_Among (n : Nat) (a0 a1 : AV) (bx : Bx) : evFn cx0 ext0 (n + 1) 14 [a0, a1] bx = fin Try.prog [.tmp 4] (F_base_Among (evFn cx0 ext0 n) n bx.length a0 a1 bx) := by
  rw [evFn_eq2 (cx := cx0) (c := c_base_Among) rfl Try.func14 c_base_Among_eq (of_decide_eq_true (by kernel_rfl)) d_base_Among (of_decide_eq_true (by kernel_rfl))]
  exact congrArg (fin Try.prog [.tmp 4]) (F_base_Among_eq (evFn cx0 ext0 n) n bx.length a0 a1 bx)

/-- scupper/ptrs.At -/
def kp_ptrs_At : Option (List Nat) := some [0, 1, 2, 4, 5, 8]
noncomputable def c_ptrs_At : Code := Try.f15.body.getD .skip
noncomputable def F_ptrs_At (E : FnA) (_n _n0 : Nat) (a0 a1 : AV) (bx : Bx) : Option (Ex × S) :=
  (boxA bx a0).bind fun r1 =>
  (callA E md0 r1.2 22 [a1]).bind fun r2 =>
  (pv r2.2 (unA .not r2.1)).bind fun r3 =>
  condA r3.1 (some (.ret, ⟨[(5, (.v (Go.Value.int Go.IntKind.i64 2))), (4, (.v (Go.Value.int Go.IntKind.u16 0))), (8, r3.1), (5, (.v (Go.Value.int Go.IntKind.i64 0))), (4, (.v (Go.Value.int Go.IntKind.u16 0))), (2, r1.1), (0, a0), (1, a1)], r3.2⟩)) ((pv r3.2 (sliceA Try.prog r3.2 40 r1.1 none none none)).bind fun r4 =>
  (pv r4.2 (binA Try.prog .mul 3 (.v (Go.Value.int Go.IntKind.i64 2)) a1)).bind fun r5 =>
  (callA E md0 r5.2 23 [r4.1, r5.1]).bind fun r6 =>
  (pv r6.2 (tupA r6.1 0)).bind fun r7 =>
  (pv r7.2 (tupA r6.1 1)).bind fun r8 =>
  some (.ret, ⟨[(5, r8.1), (4, r7.1), (8, r3.1), (5, (.v (Go.Value.int Go.IntKind.i64 0))), (4, (.v (Go.Value.int Go.IntKind.u16 0))), (2, r1.1), (0, a0), (1, a1)], r8.2⟩))
theorem c_ptrs_At_eq : Try.f15.body = some c_ptrs_At := by kernel_rfl
theorem d_ptrs_At : drawsOk Try.prog md0 c_ptrs_At = true := by kernel_rfl
theorem F_ptrs_At_eq (E : FnA) (n n0 : Nat) (a0 a1 : AV) (bx : Bx) : evK Try.prog md0 E 15 kp_ptrs_At n n0 c_ptrs_At ⟨[(0, a0), (1, a1)], bx⟩ (fun s => some (.normal, s)) (fun i s => some (.exit i, s)) = F_ptrs_At E n n0 a0 a1 bx := by kernel_rfl

theorem E_ptrs_At (n : Nat) (a0 a1 : AV) (bx : Bx) : evFn cx0 ext0 (n + 1) 15 [a0, a1] bx = fin Try.prog [.tmp 4, .tmp 5] (F_ptrs_At (evFn cx0 ext0 n) n bx.length a0 a1 bx) := by
  rw [evFn_eq2 (cx := cx0) (c := c_ptrs_At) rfl Try.func15 c_ptrs_At_eq (of_decide_eq_true (by kernel_rfl)) d_ptrs_At (of_decide_eq_true (by kernel_rfl))]
  exact congrArg (fin Try.prog [.tmp 4, .tmp 5]) (F_ptrs_At_eq (evFn cx0 ext0 n) n bx.length a0 a1 bx)

/-- scupper/scupperref11.At -/
def kp_r11_At : Option (List Nat) := some [0, 1, 2, 4, 5, 11]
noncomputable def c_r11_At : Code := Try.f16.body.getD .skip
noncomputable def F_r11_At (E : FnA) (_n _n0 : Nat) (a0 a1 : AV) (bx : Bx) : Option (Ex × S) :=
  (boxA bx a0).bind fun r1 =>
  (pv r1.2 (binA Try.prog .lss 3 a1 (.v (Go.Value.int Go.IntKind.i64 0)))).bind fun r2 =>
  (gsel false r2.2 (some (a1, r2.2)) r2.1).bind fun r3 =>
  (gsel false r3.2 (pv r3.2 (binA Try.prog .gtr 3 r3.1 (.v (Go.Value.int Go.IntKind.i64 26)))) r2.1).bind fun r4 =>
  (pv r4.2 (pickA r2.1 (.v (Go.Value.bool true)) r4.1)).bind fun r5 =>
  condA r5.1 (some (.ret, ⟨[(5, (.v (Go.Value.int Go.IntKind.i64 2))), (4, (.v (Go.Value.int Go.IntKind.u16 0))), (11, r5.1), (5, (.v (Go.Value.int Go.IntKind.i64 0))), (4, (.v (Go.Value.int Go.IntKind.u16 0))), (2, r1.1), (0, a0), (1, a1)], r5.2⟩)) ((pv r5.2 (sliceA Try.prog r5.2 40 r1.1 none none none)).bind fun r6 =>
  (pv r6.2 (binA Try.prog .mul 3 (.v (Go.Value.int Go.IntKind.i64 2)) a1)).bind fun r7 =>
  (callA E md0 r7.2 24 [r6.1, r7.1]).bind fun r8 =>
  (pv r8.2 (tupA r8.1 0)).bind fun r9 =>
  (pv r9.2 (tupA r8.1 1)).bind fun r10 =>
  some (.ret, ⟨[(5, r10.1), (4, r9.1), (11, r5.1), (5, (.v (Go.Value.int Go.IntKind.i64 0))), (4, (.v (Go.Value.int Go.IntKind.u16 0))), (2, r1.1), (0, a0), (1, a1)], r10.2⟩))
theorem c_r11_At_eq : Try.f16.body = some c_r11_At := by kernel_rfl
theorem d_r11_At : drawsOk Try.prog md0 c_r11_At = true := by kernel_rfl
theorem F_r11_At_eq (E : FnA) (n n0 : Nat) (a0 a1 : AV) (bx : Bx) : evK Try.prog md0 E 18 kp_r11_At n n0 c_r11_At ⟨[(0, a0), (1, a1)], bx⟩ (fun s => some (.normal, s)) (fun i s => some (.exit i, s)) = F_r11_At E n n0 a0 a1 bx := by kernel_rfl

theorem E_r11_At (n : Nat) (a0 a1 : AV) (bx : Bx) : evFn cx0 ext0 (n + 1) 16 [a0, a1] bx = fin Try.prog [.tmp 4, .tmp 5] (F_r11_At (evFn cx0 ext0 n) n bx.length a0 a1 bx) := by
  rw [evFn_eq2 (cx := cx0) (c := c_r11_At) rfl Try.func16 c_r11_At_eq (of_decide_eq_true (by kernel_rfl)) d_r11_At (of_decide_eq_true (by kernel_rfl))]
  exact congrArg (fin Try.prog [.tmp 4, .tmp 5]) (F_r11_At_eq (evFn cx0 ext0 n) n bx.length a0 a1 bx)

/-- scupper/ptrs.With -/
def kp_ptrs_With : Option (List Nat) := some [0, 1, 2, 3, 6, 7, 8, 11]
noncomputable def c_ptrs_With : Code := Try.f17.body.getD .skip
noncomputable def F_ptrs_With (E : FnA) (_n _n0 : Nat) (a0 a1 a2 : AV) (bx : Bx) : Option (Ex × S) :=
  (boxA bx a0).bind fun r1 =>
  (allocA Try.prog r1.2 40).bind fun r2 =>
  (callA E md0 r2.2 22 [a1]).bind fun r3 =>
  (pv r3.2 (unA .not r3.1)).bind fun r4 =>
  condA r4.1 ((pv r4.2 (buildA Try.prog 40 [])).bind fun r5 =>
  (stA Try.prog 40 r5.2 r2.1 r5.1).bind fun r6 =>
  some (.ret, ⟨[(7, (.v (Go.Value.int Go.IntKind.i64 2))), (11, r4.1), (7, (.v (Go.Value.int Go.IntKind.i64 0))), (6, r2.1), (3, r1.1), (0, a0), (1, a1), (2, a2)], r6.2⟩)) ((callA E md0 r4.2 25 [a2]).bind fun r7 =>
  (allocA Try.prog r7.2 53).bind fun r8 =>
  (stA Try.prog 53 r8.2 r8.1 r7.1).bind fun r9 =>
  (pv r9.2 (binA Try.prog .mul 3 (.v (Go.Value.int Go.IntKind.i64 2)) a1)).bind fun r10 =>
  (pv r10.2 (sliceA Try.prog r10.2 40 r1.1 (some r10.1) none none)).bind fun r11 =>
  (pv r11.2 (sliceA Try.prog r11.2 53 r8.1 none none none)).bind fun r12 =>
  (copyA Try.prog r12.2 52 r11.1 r12.1).bind fun r13 =>
  (pv r13.2 (loadA Try.prog 40 r13.2 r1.1)).bind fun r14 =>
  (stA Try.prog 40 r14.2 r2.1 r14.1).bind fun r15 =>
  some (.ret, ⟨[(7, (.v (Go.Value.int Go.IntKind.i64 0))), (8, r8.1), (11, r4.1), (7, (.v (Go.Value.int Go.IntKind.i64 0))), (6, r2.1), (3, r1.1), (0, a0), (1, a1), (2, a2)], r15.2⟩))
theorem c_ptrs_With_eq : Try.f17.body = some c_ptrs_With := by kernel_rfl
theorem d_ptrs_With : drawsOk Try.prog md0 c_ptrs_With = true := by kernel_rfl
theorem F_ptrs_With_eq (E : FnA) (n n0 : Nat) (a0 a1 a2 : AV) (bx : Bx) : evK Try.prog md0 E 21 kp_ptrs_With n n0 c_ptrs_With ⟨[(0, a0), (1, a1), (2, a2)], bx⟩ (fun s => some (.normal, s)) (fun i s => some (.exit i, s)) = F_ptrs_With E n n0 a0 a1 a2 bx := by kernel_rfl

theorem E_ptrs_With (n : Nat) (a0 a1 a2 : AV) (bx : Bx) : evFn cx0 ext0 (n + 1) 17 [a0, a1, a2] bx = fin Try.prog [.cell 6 40, .tmp 7] (F_ptrs_With (evFn cx0 ext0 n) n bx.length a0 a1 a2 bx) := by
  rw [evFn_eq2 (cx := cx0) (c := c_ptrs_With) rfl Try.func17 c_ptrs_With_eq (of_decide_eq_true (by kernel_rfl)) d_ptrs_With (of_decide_eq_true (by kernel_rfl))]
  exact congrArg (fin Try.prog [.cell 6 40, .tmp 7]) (F_ptrs_With_eq (evFn cx0 ext0 n) n bx.length a0 a1 a2 bx)

/-- scupper/scupperref11.With -/
def kp_r11_With : Option (List Nat) := some [0, 1, 2, 3, 6, 7, 8, 9, 15]
noncomputable def c_r11_With : Code := Try.f18.body.getD .skip
noncomputable def F_r11_With (E : FnA) (_n _n0 : Nat) (a0 a1 a2 : AV) (bx : Bx) : Option (Ex × S) :=
  (boxA bx a0).bind fun r1 =>
  (allocA Try.prog r1.2 40).bind fun r2 =>
  (pv r2.2 (binA Try.prog .lss 3 a1 (.v (Go.Value.int Go.IntKind.i64 0)))).bind fun r3 =>
  (gsel false r3.2 (some (a1, r3.2)) r3.1).bind fun r4 =>
  (gsel false r4.2 (pv r4.2 (binA Try.prog .gtr 3 r4.1 (.v (Go.Value.int Go.IntKind.i64 26)))) r3.1).bind fun r5 =>
  (pv r5.2 (pickA r3.1 (.v (Go.Value.bool true)) r5.1)).bind fun r6 =>
  condA r6.1 ((pv r6.2 (buildA Try.prog 40 [])).bind fun r7 =>
  (stA Try.prog 40 r7.2 r2.1 r7.1).bind fun r8 =>
  some (.ret, ⟨[(7, (.v (Go.Value.int Go.IntKind.i64 2))), (15, r6.1), (7, (.v (Go.Value.int Go.IntKind.i64 0))), (6, r2.1), (3, r1.1), (0, a0), (1, a1), (2, a2)], r8.2⟩)) ((callA E md0 r6.2 26 [a2]).bind fun r9 =>
  (pv r9.2 (loadA Try.prog 40 r9.2 r1.1)).bind fun r10 =>
  (allocA Try.prog r10.2 40).bind fun r11 =>
  (stA Try.prog 40 r11.2 r11.1 r10.1).bind fun r12 =>
  (pv r12.2 (binA Try.prog .mul 3 (.v (Go.Value.int Go.IntKind.i64 2)) a1)).bind fun r13 =>
  (pv r13.2 (binA Try.prog .mul 3 (.v (Go.Value.int Go.IntKind.i64 2)) a1)).bind fun r14 =>
  (pv r14.2 (binA Try.prog .add 3 r14.1 (.v (Go.Value.int Go.IntKind.i64 1)))).bind fun r15 =>
  (pv r15.2 (indexAddrA Try.prog 52 r9.1 (.v (Go.Value.int Go.IntKind.i64 0)))).bind fun r16 =>
  (pv r16.2 (loadA Try.prog 5 r16.2 r16.1)).bind fun r17 =>
  (pv r17.2 (indexAddrA Try.prog 52 r9.1 (.v (Go.Value.int Go.IntKind.i64 1)))).bind fun r18 =>
  (pv r18.2 (loadA Try.prog 5 r18.2 r18.1)).bind fun r19 =>
  (pv r19.2 (indexAddrA Try.prog 40 r11.1 r13.1)).bind fun r20 =>
  (guardB (apartV r20.1 r18.1 && true)).bind fun _ =>
  (stA Try.prog 5 r20.2 r20.1 r17.1).bind fun r21 =>
  (pv r21.2 (indexAddrA Try.prog 40 r11.1 r15.1)).bind fun r22 =>
  (stA Try.prog 5 r22.2 r22.1 r19.1).bind fun r23 =>
  (pv r23.2 (loadA Try.prog 40 r23.2 r11.1)).bind fun r24 =>
  (stA Try.prog 40 r24.2 r2.1 r24.1).bind fun r25 =>
  some (.ret, ⟨[(7, (.v (Go.Value.int Go.IntKind.i64 0))), (9, r11.1), (8, r9.1), (15, r6.1), (7, (.v (Go.Value.int Go.IntKind.i64 0))), (6, r2.1), (3, r1.1), (0, a0), (1, a1), (2, a2)], r25.2⟩))
theorem c_r11_With_eq : Try.f18.body = some c_r11_With := by kernel_rfl
theorem d_r11_With : drawsOk Try.prog md0 c_r11_With = true := by kernel_rfl
theorem F_r11_With_eq (E : FnA) (n n0 : Nat) (a0 a1 a2 : AV) (bx : Bx) : evK Try.prog md0 E 34 kp_r11_With n n0 c_r11_With ⟨[(0, a0), (1, a1), (2, a2)], bx⟩ (fun s => some (.normal, s)) (fun i s => some (.exit i, s)) = F_r11_With E n n0 a0 a1 a2 bx := by kernel_rfl

theorem E_r11_With (n : Nat) (a0 a1 a2 : AV) (bx : Bx) : evFn cx0 ext0 (n + 1) 18 [a0, a1, a2] bx = fin Try.prog [.cell 6 40, .tmp 7] (F_r11_With (evFn cx0 ext0 n) n bx.length a0 a1 a2 bx) := by
  rw [evFn_eq2 (cx := cx0) (c := c_r11_With) rfl Try.func18 c_r11_With_eq (of_decide_eq_true (by kernel_rfl)) d_r11_With (of_decide_eq_true (by kernel_rfl))]
  exact congrArg (fin Try.prog [.cell 6 40, .tmp 7]) (F_r11_With_eq (evFn cx0 ext0 n) n bx.length a0 a1 a2 bx)

/-- scupper/scupperref11.All -/
def kp_r11_All : Option (List Nat) := some [0, 1, 2, 3, 4, 5, 9]
noncomputable def c_r11_All : Code := Try.f20.body.getD .skip
noncomputable def L_r11_All_0 (E : FnA) (_n n0 : Nat) (s : S) : Option (Ex × S) :=
  (pv s.bx (binA Try.prog .lss 3 (get s.env 4) (.v (Go.Value.int Go.IntKind.i64 27)))).bind fun r12 =>
  condA r12.1 ((pv r12.2 (loadA Try.prog 40 r12.2 (get (prune kp_r11_All s.env) 1))).bind fun r13 =>
  (callA E md0 r13.2 16 [r13.1, (get (prune kp_r11_All s.env) 4)]).bind fun r14 =>
  (pv r14.2 (tupA r14.1 0)).bind fun r15 =>
  (pv r15.2 (tupA r14.1 1)).bind fun r16 =>
  (buildSliceA Try.prog r16.2 46 1 [(0, r15.1)]).bind fun r17 =>
  (appA Try.prog n0 r17.2 46 (get (prune kp_r11_All (prune kp_r11_All s.env)) 3) r17.1).bind fun r18 =>
  (pv r18.2.2 (binA Try.prog .add 3 (get (prune kp_r11_All (mapE r18.2.1 (prune kp_r11_All (prune kp_r11_All s.env)))) 4) (.v (Go.Value.int Go.IntKind.i64 1)))).bind fun r19 =>
  some (.normal, ⟨((4, r19.1) :: (3, r18.1) :: (5, (r18.2.1 r15.1)) :: (9, (r18.2.1 r12.1)) :: (prune kp_r11_All (prune kp_r11_All (mapE r18.2.1 (prune kp_r11_All (prune kp_r11_All s.env)))))), r19.2⟩)) (some (.exit 0, ⟨((9, r12.1) :: (prune kp_r11_All s.env)), r12.2⟩))
noncomputable def B_r11_All_0 (E : FnA) (_n n0 : Nat) (x4 x3 x2 x1 x0 : AV) (y : Bx) : Option (Ex × S) :=
  (pv y (binA Try.prog .lss 3 x4 (.v (Go.Value.int Go.IntKind.i64 27)))).bind fun r4 =>
  condA r4.1 ((pv r4.2 (loadA Try.prog 40 r4.2 x1)).bind fun r5 =>
  (callA E md0 r5.2 16 [r5.1, x4]).bind fun r6 =>
  (pv r6.2 (tupA r6.1 0)).bind fun r7 =>
  (pv r7.2 (tupA r6.1 1)).bind fun r8 =>
  (buildSliceA Try.prog r8.2 46 1 [(0, r7.1)]).bind fun r9 =>
  (appA Try.prog n0 r9.2 46 x3 r9.1).bind fun r10 =>
  (pv r10.2.2 (binA Try.prog .add 3 (r10.2.1 x4) (.v (Go.Value.int Go.IntKind.i64 1)))).bind fun r11 =>
  some (.normal, ⟨[(4, r11.1), (3, r10.1), (5, (r10.2.1 r7.1)), (9, (r10.2.1 r4.1)), (4, (r10.2.1 x4)), (3, (r10.2.1 x3)), (2, (r10.2.1 x2)), (1, (r10.2.1 x1)), (0, (r10.2.1 x0))], r11.2⟩)) (some (.exit 0, ⟨[(9, r4.1), (4, x4), (3, x3), (2, x2), (1, x1), (0, x0)], r4.2⟩))
theorem L_r11_All_0_lit {E : FnA} {n n0 : Nat} {x4 x3 x2 x1 x0 : AV} {y : Bx} {Q : Ex → S → Prop} (h : Ends (B_r11_All_0 E n n0 x4 x3 x2 x1 x0 y) Q) : Ends (L_r11_All_0 E n n0 ⟨[(4, x4), (3, x3), (2, x2), (1, x1), (0, x0)], y⟩) Q := by
  rw [show L_r11_All_0 E n n0 ⟨[(4, x4), (3, x3), (2, x2), (1, x1), (0, x0)], y⟩ = B_r11_All_0 E n n0 x4 x3 x2 x1 x0 y by kernel_rfl]
  exact h
noncomputable def K_r11_All_0 (_E : FnA) (_n _n0 : Nat) (t : S) : Option (Ex × S) :=
  some (.ret, ⟨((2, (get t.env 3)) :: (prune kp_r11_All t.env)), t.bx⟩)
noncomputable def X_r11_All_0 (_E : FnA) (_n _n0 : Nat) (i : Nat) (t : S) : Option (Ex × S) :=
  if i = 0 then some (.ret, ⟨((2, (get t.env 3)) :: (prune kp_r11_All t.env)), t.bx⟩) else some (.exit i, ⟨t.env, t.bx⟩)
noncomputable def X_r11_All_0_0 (_E : FnA) (_n _n0 : Nat) (x9 x4 x3 x2 x1 x0 : AV) (y : Bx) : Option (Ex × S) :=
  some (.ret, ⟨[(2, x3), (9, x9), (4, x4), (3, x3), (2, x2), (1, x1), (0, x0)], y⟩)
theorem X_r11_All_0_0_lit {E : FnA} {n n0 : Nat} {x9 x4 x3 x2 x1 x0 : AV} {y : Bx} {Q : Ex → S → Prop} (h : Ends (X_r11_All_0_0 E n n0 x9 x4 x3 x2 x1 x0 y) Q) : Ends (X_r11_All_0 E n n0 0 ⟨[(9, x9), (4, x4), (3, x3), (2, x2), (1, x1), (0, x0)], y⟩) Q := by
  rw [show X_r11_All_0 E n n0 0 ⟨[(9, x9), (4, x4), (3, x3), (2, x2), (1, x1), (0, x0)], y⟩ = X_r11_All_0_0 E n n0 x9 x4 x3 x2 x1 x0 y by kernel_rfl]
  exact h
noncomputable def F_r11_All (E : FnA) (n n0 : Nat) (a0 : AV) (bx : Bx) : Option (Ex × S) :=
  (boxA bx a0).bind fun r1 =>
  (some (AV.bsl (List.length r1.2) 0 0 0, r1.2 ++ [[]])).bind fun r2 =>
  (buildSliceA Try.prog r2.2 46 0 []).bind fun r3 =>
  exitA (iter ⟨[(4, (.v (Go.Value.int Go.IntKind.i64 0))), (3, r3.1), (2, r2.1), (1, r1.1), (0, a0)], r3.2⟩ (L_r11_All_0 E n n0) n ⟨[(4, (.v (Go.Value.int Go.IntKind.i64 0))), (3, r3.1), (2, r2.1), (1, r1.1), (0, a0)], r3.2⟩) (K_r11_All_0 E n n0) (X_r11_All_0 E n n0)
theorem c_r11_All_eq : Try.f20.body = some c_r11_All := by kernel_rfl
theorem d_r11_All : drawsOk Try.prog md0 c_r11_All = true := by kernel_rfl
theorem F_r11_All_eq (E : FnA) (n n0 : Nat) (a0 : AV) (bx : Bx) : evK Try.prog md0 E 23 kp_r11_All n n0 c_r11_All ⟨[(0, a0)], bx⟩ (fun s => some (.normal, s)) (fun i s => some (.exit i, s)) = F_r11_All E n n0 a0 bx := by kernel_rfl

theorem E_r11_All (n : Nat) (a0 : AV) (bx : Bx) : evFn cx0 ext0 (n + 1) 20 [a0] bx = fin Try.prog [.tmp 2] (F_r11_All (evFn cx0 ext0 n) n bx.length a0 bx) := by
  rw [evFn_eq2 (cx := cx0) (c := c_r11_All) rfl Try.func20 c_r11_All_eq (of_decide_eq_true (by kernel_rfl)) d_r11_All (of_decide_eq_true (by kernel_rfl))]
  exact congrArg (fin Try.prog [.tmp 2]) (F_r11_All_eq (evFn cx0 ext0 n) n bx.length a0 bx)

/-- scupper/ptrs.may -/
def kp_ptrs_may : Option (List Nat) := some [0, 2]
noncomputable def c_ptrs_may : Code := Try.f22.body.getD .skip
noncomputable def F_ptrs_may (_E : FnA) (_n _n0 : Nat) (a0 : AV) (bx : Bx) : Option (Ex × S) :=
  (pv bx (binA Try.prog .geq 3 a0 (.v (Go.Value.int Go.IntKind.i64 0)))).bind fun r1 =>
  (gsel true r1.2 (some (a0, r1.2)) r1.1).bind fun r2 =>
  (gsel true r2.2 (pv r2.2 (binA Try.prog .lss 3 r2.1 (.v (Go.Value.int Go.IntKind.i64 27)))) r1.1).bind fun r3 =>
  (pv r3.2 (pickA r1.1 r3.1 (.v (Go.Value.bool false)))).bind fun r4 =>
  some (.ret, ⟨[(2, r4.1), (2, (.v (Go.Value.bool false))), (0, a0)], r4.2⟩)
theorem c_ptrs_may_eq : Try.f22.body = some c_ptrs_may := by kernel_rfl
theorem d_ptrs_may : drawsOk Try.prog md0 c_ptrs_may = true := by kernel_rfl
theorem F_ptrs_may_eq (E : FnA) (n n0 : Nat) (a0 : AV) (bx : Bx) : evK Try.prog md0 E 9 kp_ptrs_may n n0 c_ptrs_may ⟨[(0, a0)], bx⟩ (fun s => some (.normal, s)) (fun i s => some (.exit i, s)) = F_ptrs_may E n n0 a0 bx := by kernel_rfl

theorem E_ptrs_may (n : Nat) (a0 : AV) (bx : Bx) : evFn cx0 ext0 (n + 1) 22 [a0] bx = fin Try.prog [.tmp 2] (F_ptrs_may (evFn cx0 ext0 n) n bx.length a0 bx) := by
  rw [evFn_eq2 (cx := cx0) (c := c_ptrs_may) rfl Try.func22 c_ptrs_may_eq (of_decide_eq_true (by kernel_rfl)) d_ptrs_may (of_decide_eq_true (by kernel_rfl))]
  exact congrArg (fin Try.prog [.tmp 2]) (F_ptrs_may_eq (evFn cx0 ext0 n) n bx.length a0 bx)

/-- scupper/num.Get16 -/
def kp_num_Get16 : Option (List Nat) := some [0, 1, 4, 5, 6, 7]
noncomputable def c_num_Get16 : Code := Try.f23.body.getD .skip
noncomputable def F_num_Get16 (E : FnA) (_n _n0 : Nat) (a0 a1 : AV) (bx : Bx) : Option (Ex × S) :=
  (callA E md0 bx 28 [a0, a1, (.v (Go.Value.int Go.IntKind.i64 2))]).bind fun r1 =>
  (pv r1.2 (tupA r1.1 0)).bind fun r2 =>
  (pv r2.2 (tupA r1.1 1)).bind fun r3 =>
  (convA Try.prog r3.2 58 41 r2.1).bind fun r4 =>
  some (.ret, ⟨[(5, r3.1), (4, r4.1), (7, r3.1), (6, r2.1), (5, (.v (Go.Value.int Go.IntKind.i64 0))), (4, (.v (Go.Value.int Go.IntKind.u16 0))), (0, a0), (1, a1)], r4.2⟩)
theorem c_num_Get16_eq : Try.f23.body = some c_num_Get16 := by kernel_rfl
theorem d_num_Get16 : drawsOk Try.prog md0 c_num_Get16 = true := by kernel_rfl
theorem F_num_Get16_eq (E : FnA) (n n0 : Nat) (a0 a1 : AV) (bx : Bx) : evK Try.prog md0 E 17 kp_num_Get16 n n0 c_num_Get16 ⟨[(0, a0), (1, a1)], bx⟩ (fun s => some (.normal, s)) (fun i s => some (.exit i, s)) = F_num_Get16 E n n0 a0 a1 bx := by kernel_rfl

theorem E_num_Get16 (n : Nat) (a0 a1 : AV) (bx : Bx) : evFn cx0 ext0 (n + 1) 23 [a0, a1] bx = fin Try.prog [.tmp 4, .tmp 5] (F_num_Get16 (evFn cx0 ext0 n) n bx.length a0 a1 bx) := by
  rw [evFn_eq2 (cx := cx0) (c := c_num_Get16) rfl Try.func23 c_num_Get16_eq (of_decide_eq_true (by kernel_rfl)) d_num_Get16 (of_decide_eq_true (by kernel_rfl))]
  exact congrArg (fin Try.prog [.tmp 4, .tmp 5]) (F_num_Get16_eq (evFn cx0 ext0 n) n bx.length a0 a1 bx)

/-- scupper/scupperref01.Get16 -/
def kp_r01_Get16 : Option (List Nat) := some [0, 1, 4, 5, 6, 7]
noncomputable def c_r01_Get16 : Code := Try.f24.body.getD .skip
noncomputable def F_r01_Get16 (E : FnA) (_n _n0 : Nat) (a0 a1 : AV) (bx : Bx) : Option (Ex × S) :=
  (callA E md0 bx 29 [a0, a1, (.v (Go.Value.int Go.IntKind.i64 2))]).bind fun r1 =>
  (pv r1.2 (tupA r1.1 0)).bind fun r2 =>
  (pv r2.2 (tupA r1.1 1)).bind fun r3 =>
  (convA Try.prog r3.2 50 41 r2.1).bind fun r4 =>
  some (.ret, ⟨[(5, r3.1), (4, r4.1), (7, r3.1), (6, r2.1), (5, (.v (Go.Value.int Go.IntKind.i64 0))), (4, (.v (Go.Value.int Go.IntKind.u16 0))), (0, a0), (1, a1)], r4.2⟩)
theorem c_r01_Get16_eq : Try.f24.body = some c_r01_Get16 := by kernel_rfl
theorem d_r01_Get16 : drawsOk Try.prog md0 c_r01_Get16 = true := by kernel_rfl
theorem F_r01_Get16_eq (E : FnA) (n n0 : Nat) (a0 a1 : AV) (bx : Bx) : evK Try.prog md0 E 17 kp_r01_Get16 n n0 c_r01_Get16 ⟨[(0, a0), (1, a1)], bx⟩ (fun s => some (.normal, s)) (fun i s => some (.exit i, s)) = F_r01_Get16 E n n0 a0 a1 bx := by kernel_rfl

theorem E_r01_Get16 (n : Nat) (a0 a1 : AV) (bx : Bx) : evFn cx0 ext0 (n + 1) 24 [a0, a1] bx = fin Try.prog [.tmp 4, .tmp 5] (F_r01_Get16 (evFn cx0 ext0 n) n bx.length a0 a1 bx) := by
  rw [evFn_eq2 (cx := cx0) (c := c_r01_Get16) rfl Try.func24 c_r01_Get16_eq (of_decide_eq_true (by kernel_rfl)) d_r01_Get16 (of_decide_eq_true (by kernel_rfl))]
  exact congrArg (fin Try.prog [.tmp 4, .tmp 5]) (F_r01_Get16_eq (evFn cx0 ext0 n) n bx.length a0 a1 bx)

/-- scupper/num.Put16 -/
def kp_num_Put16 : Option (List Nat) := some [0, 2]
noncomputable def c_num_Put16 : Code := Try.f25.body.getD .skip
noncomputable def F_num_Put16 (_E : FnA) (_n _n0 : Nat) (a0 : AV) (bx : Bx) : Option (Ex × S) :=
  (allocA Try.prog bx 53).bind fun r1 =>
  (convA Try.prog r1.2 41 5 a0).bind fun r2 =>
  (pv r2.2 (binA Try.prog .shr 41 a0 (.v (Go.Value.int Go.IntKind.u64 8)))).bind fun r3 =>
  (convA Try.prog r3.2 41 5 r3.1).bind fun r4 =>
  (pv r4.2 (buildA Try.prog 53 [(0, r2.1), (1, r4.1)])).bind fun r5 =>
  (stA Try.prog 53 r5.2 r1.1 r5.1).bind fun r6 =>
  some (.ret, ⟨[(2, r1.1), (0, a0)], r6.2⟩)
theorem c_num_Put16_eq : Try.f25.body = some c_num_Put16 := by kernel_rfl
theorem d_num_Put16 : drawsOk Try.prog md0 c_num_Put16 = true := by kernel_rfl
theorem F_num_Put16_eq (E : FnA) (n n0 : Nat) (a0 : AV) (bx : Bx) : evK Try.prog md0 E 9 kp_num_Put16 n n0 c_num_Put16 ⟨[(0, a0)], bx⟩ (fun s => some (.normal, s)) (fun i s => some (.exit i, s)) = F_num_Put16 E n n0 a0 bx := by kernel_rfl

theorem E_num_Put16 (n : Nat) (a0 : AV) (bx : Bx) : evFn cx0 ext0 (n + 1) 25 [a0] bx = fin Try.prog [.cell 2 53] (F_num_Put16 (evFn cx0 ext0 n) n bx.length a0 bx) := by
  rw [evFn_eq2 (cx := cx0) (c := c_num_Put16) rfl Try.func25 c_num_Put16_eq (of_decide_eq_true (by kernel_rfl)) d_num_Put16 (of_decide_eq_true (by kernel_rfl))]
  exact congrArg (fin Try.prog [.cell 2 53]) (F_num_Put16_eq (evFn cx0 ext0 n) n bx.length a0 bx)

/-- scupper/scupperref01.Put16 -/
def kp_r01_Put16 : Option (List Nat) := some [0, 2]
noncomputable def c_r01_Put16 : Code := Try.f26.body.getD .skip
noncomputable def F_r01_Put16 (_E : FnA) (_n _n0 : Nat) (a0 : AV) (bx : Bx) : Option (Ex × S) :=
  (some (AV.bsl (List.length bx) 0 0 0, bx ++ [[]])).bind fun r1 =>
  (pv r1.2 (binA Try.prog .rem 41 a0 (.v (Go.Value.int Go.IntKind.u16 256)))).bind fun r2 =>
  (convA Try.prog r2.2 41 5 r2.1).bind fun r3 =>
  (pv r3.2 (binA Try.prog .quo 41 a0 (.v (Go.Value.int Go.IntKind.u16 256)))).bind fun r4 =>
  (convA Try.prog r4.2 41 5 r4.1).bind fun r5 =>
  (buildSliceA Try.prog r5.2 52 2 [(0, r3.1), (1, r5.1)]).bind fun r6 =>
  some (.ret, ⟨[(2, r6.1), (2, r1.1), (0, a0)], r6.2⟩)
theorem c_r01_Put16_eq : Try.f26.body = some c_r01_Put16 := by kernel_rfl
theorem d_r01_Put16 : drawsOk Try.prog md0 c_r01_Put16 = true := by kernel_rfl
theorem F_r01_Put16_eq (E : FnA) (n n0 : Nat) (a0 : AV) (bx : Bx) : evK Try.prog md0 E 10 kp_r01_Put16 n n0 c_r01_Put16 ⟨[(0, a0)], bx⟩ (fun s => some (.normal, s)) (fun i s => some (.exit i, s)) = F_r01_Put16 E n n0 a0 bx := by kernel_rfl

theorem E_r01_Put16 (n : Nat) (a0 : AV) (bx : Bx) : evFn cx0 ext0 (n + 1) 26 [a0] bx = fin Try.prog [.tmp 2] (F_r01_Put16 (evFn cx0 ext0 n) n bx.length a0 bx) := by
  rw [evFn_eq2 (cx := cx0) (c := c_r01_Put16) rfl Try.func26 c_r01_Put16_eq (of_decide_eq_true (by kernel_rfl)) d_r01_Put16 (of_decide_eq_true (by kernel_rfl))]
  exact congrArg (fin Try.prog [.tmp 2]) (F_r01_Put16_eq (evFn cx0 ext0 n) n bx.length a0 bx)

/-- scupper/num.get -/
def kp_num_get : Option (List Nat) := some [0, 1, 2, 6, 7, 8, 9, 25, 26, 27, 28]
noncomputable def c_num_get : Code := Try.f28.body.getD .skip
noncomputable def L_num_get_0 (_E : FnA) (_n _n0 : Nat) (s : S) : Option (Ex × S) :=
  (pv s.bx (binA Try.prog .lss 3 (get s.env 27) (get s.env 26))).bind fun r23 =>
  condA r23.1 ((pv r23.2 (binA Try.prog .add 3 (get (prune kp_num_get (prune kp_num_get s.env)) 1) (get (prune kp_num_get s.env) 27))).bind fun r24 =>
  (pv r24.2 (indexAddrA Try.prog 52 (get (prune kp_num_get (prune kp_num_get s.env)) 0) r24.1)).bind fun r25 =>
  (pv r25.2 (loadA Try.prog 5 r25.2 r25.1)).bind fun r26 =>
  (convA Try.prog r26.2 5 58 r26.1).bind fun r27 =>
  (pv r27.2 (binA Try.prog .mul 3 (.v (Go.Value.int Go.IntKind.i64 8)) (get (prune kp_num_get s.env) 27))).bind fun r28 =>
  (pv r28.2 (binA Try.prog .shl 58 r27.1 r28.1)).bind fun r29 =>
  (pv r29.2 (binA Try.prog .or 58 (get (prune kp_num_get (prune kp_num_get s.env)) 8) r29.1)).bind fun r30 =>
  (pv r30.2 (binA Try.prog .add 3 (get (prune kp_num_get (prune kp_num_get (prune kp_num_get s.env))) 27) (.v (Go.Value.int Go.IntKind.i64 1)))).bind fun r31 =>
  some (.normal, ⟨((27, r31.1) :: (8, r30.1) :: (9, (get (prune kp_num_get s.env) 27)) :: (28, r23.1) :: (prune kp_num_get (prune kp_num_get (prune kp_num_get (prune kp_num_get s.env))))), r31.2⟩)) (some (.exit 0, ⟨((28, r23.1) :: (prune kp_num_get s.env)), r23.2⟩))
noncomputable def B_num_get_0 (_E : FnA) (_n _n0 : Nat) (x27 x26 x8 x25 x7 x6 x0 x1 x2 : AV) (y : Bx) : Option (Ex × S) :=
  (pv y (binA Try.prog .lss 3 x27 x26)).bind fun r14 =>
  condA r14.1 ((pv r14.2 (binA Try.prog .add 3 x1 x27)).bind fun r15 =>
  (pv r15.2 (indexAddrA Try.prog 52 x0 r15.1)).bind fun r16 =>
  (pv r16.2 (loadA Try.prog 5 r16.2 r16.1)).bind fun r17 =>
  (convA Try.prog r17.2 5 58 r17.1).bind fun r18 =>
  (pv r18.2 (binA Try.prog .mul 3 (.v (Go.Value.int Go.IntKind.i64 8)) x27)).bind fun r19 =>
  (pv r19.2 (binA Try.prog .shl 58 r18.1 r19.1)).bind fun r20 =>
  (pv r20.2 (binA Try.prog .or 58 x8 r20.1)).bind fun r21 =>
  (pv r21.2 (binA Try.prog .add 3 x27 (.v (Go.Value.int Go.IntKind.i64 1)))).bind fun r22 =>
  some (.normal, ⟨[(27, r22.1), (8, r21.1), (9, x27), (28, r14.1), (27, x27), (26, x26), (8, x8), (25, x25), (7, x7), (6, x6), (0, x0), (1, x1), (2, x2)], r22.2⟩)) (some (.exit 0, ⟨[(28, r14.1), (27, x27), (26, x26), (8, x8), (25, x25), (7, x7), (6, x6), (0, x0), (1, x1), (2, x2)], r14.2⟩))
theorem L_num_get_0_lit {E : FnA} {n n0 : Nat} {x27 x26 x8 x25 x7 x6 x0 x1 x2 : AV} {y : Bx} {Q : Ex → S → Prop} (h : Ends (B_num_get_0 E n n0 x27 x26 x8 x25 x7 x6 x0 x1 x2 y) Q) : Ends (L_num_get_0 E n n0 ⟨[(27, x27), (26, x26), (8, x8), (25, x25), (7, x7), (6, x6), (0, x0), (1, x1), (2, x2)], y⟩) Q := by
  rw [show L_num_get_0 E n n0 ⟨[(27, x27), (26, x26), (8, x8), (25, x25), (7, x7), (6, x6), (0, x0), (1, x1), (2, x2)], y⟩ = B_num_get_0 E n n0 x27 x26 x8 x25 x7 x6 x0 x1 x2 y by kernel_rfl]
  exact h
noncomputable def K_num_get_0 (_E : FnA) (_n _n0 : Nat) (t : S) : Option (Ex × S) :=
  some (.ret, ⟨((7, (.v (Go.Value.int Go.IntKind.i64 0))) :: (6, (get t.env 8)) :: (prune kp_num_get t.env)), t.bx⟩)
noncomputable def X_num_get_0 (_E : FnA) (_n _n0 : Nat) (i : Nat) (t : S) : Option (Ex × S) :=
  if i = 0 then some (.ret, ⟨((7, (.v (Go.Value.int Go.IntKind.i64 0))) :: (6, (get t.env 8)) :: (prune kp_num_get t.env)), t.bx⟩) else some (.exit i, ⟨t.env, t.bx⟩)
noncomputable def X_num_get_0_0 (_E : FnA) (_n _n0 : Nat) (x28 x27 x26 x8 x25 x7 x6 x0 x1 x2 : AV) (y : Bx) : Option (Ex × S) :=
  some (.ret, ⟨[(7, (.v (Go.Value.int Go.IntKind.i64 0))), (6, x8), (28, x28), (27, x27), (26, x26), (8, x8), (25, x25), (7, x7), (6, x6), (0, x0), (1, x1), (2, x2)], y⟩)
theorem X_num_get_0_0_lit {E : FnA} {n n0 : Nat} {x28 x27 x26 x8 x25 x7 x6 x0 x1 x2 : AV} {y : Bx} {Q : Ex → S → Prop} (h : Ends (X_num_get_0_0 E n n0 x28 x27 x26 x8 x25 x7 x6 x0 x1 x2 y) Q) : Ends (X_num_get_0 E n n0 0 ⟨[(28, x28), (27, x27), (26, x26), (8, x8), (25, x25), (7, x7), (6, x6), (0, x0), (1, x1), (2, x2)], y⟩) Q := by
  rw [show X_num_get_0 E n n0 0 ⟨[(28, x28), (27, x27), (26, x26), (8, x8), (25, x25), (7, x7), (6, x6), (0, x0), (1, x1), (2, x2)], y⟩ = X_num_get_0_0 E n n0 x28 x27 x26 x8 x25 x7 x6 x0 x1 x2 y by kernel_rfl]
  exact h
noncomputable def F_num_get (E : FnA) (n n0 : Nat) (a0 a1 a2 : AV) (bx : Bx) : Option (Ex × S) :=
  (pv bx (binA Try.prog .lss 3 a1 (.v (Go.Value.int Go.IntKind.i64 0)))).bind fun r1 =>
  (gsel false r1.2 (some (a1, r1.2)) r1.1).bind fun r2 =>
  (gsel false r2.2 (some (a0, r2.2)) r1.1).bind fun r3 =>
  (gsel false r3.2 (pv r3.2 (lenA Try.prog 52 r3.1)) r1.1).bind fun r4 =>
  (gsel false r4.2 (pv r4.2 (binA Try.prog .gtr 3 r2.1 r4.1)) r1.1).bind fun r5 =>
  (pv r5.2 (pickA r1.1 (.v (Go.Value.bool true)) r5.1)).bind fun r6 =>
  (gsel false r6.2 (some (a0, r6.2)) r6.1).bind fun r7 =>
  (gsel false r7.2 (pv r7.2 (lenA Try.prog 52 r7.1)) r6.1).bind fun r8 =>
  (gsel false r8.2 (some (a1, r8.2)) r6.1).bind fun r9 =>
  (gsel false r9.2 (pv r9.2 (binA Try.prog .sub 3 r8.1 r9.1)) r6.1).bind fun r10 =>
  (gsel false r10.2 (some (a2, r10.2)) r6.1).bind fun r11 =>
  (gsel false r11.2 (pv r11.2 (binA Try.prog .lss 3 r10.1 r11.1)) r6.1).bind fun r12 =>
  (pv r12.2 (pickA r6.1 (.v (Go.Value.bool true)) r12.1)).bind fun r13 =>
  condA r13.1 (some (.ret, ⟨[(7, (.v (Go.Value.int Go.IntKind.i64 7))), (6, (.v (Go.Value.int Go.IntKind.u32 0))), (25, r13.1), (7, (.v (Go.Value.int Go.IntKind.i64 0))), (6, (.v (Go.Value.int Go.IntKind.u32 0))), (0, a0), (1, a1), (2, a2)], r13.2⟩)) (exitA (iter ⟨[(27, (.v (Go.Value.int Go.IntKind.i64 0))), (26, a2), (8, (.v (Go.Value.int Go.IntKind.u32 0))), (25, r13.1), (7, (.v (Go.Value.int Go.IntKind.i64 0))), (6, (.v (Go.Value.int Go.IntKind.u32 0))), (0, a0), (1, a1), (2, a2)], r13.2⟩ (L_num_get_0 E n n0) n ⟨[(27, (.v (Go.Value.int Go.IntKind.i64 0))), (26, a2), (8, (.v (Go.Value.int Go.IntKind.u32 0))), (25, r13.1), (7, (.v (Go.Value.int Go.IntKind.i64 0))), (6, (.v (Go.Value.int Go.IntKind.u32 0))), (0, a0), (1, a1), (2, a2)], r13.2⟩) (K_num_get_0 E n n0) (X_num_get_0 E n n0))
theorem c_num_get_eq : Try.f28.body = some c_num_get := by kernel_rfl
theorem d_num_get : drawsOk Try.prog md0 c_num_get = true := by kernel_rfl
theorem F_num_get_eq (E : FnA) (n n0 : Nat) (a0 a1 a2 : AV) (bx : Bx) : evK Try.prog md0 E 44 kp_num_get n n0 c_num_get ⟨[(0, a0), (1, a1), (2, a2)], bx⟩ (fun s => some (.normal, s)) (fun i s => some (.exit i, s)) = F_num_get E n n0 a0 a1 a2 bx := by kernel_rfl

theorem E_num_get (n : Nat) (a0 a1 a2 : AV) (bx : Bx) : evFn cx0 ext0 (n + 1) 28 [a0, a1, a2] bx = fin Try.prog [.tmp 6, .tmp 7] (F_num_get (evFn cx0 ext0 n) n bx.length a0 a1 a2 bx) := by
  rw [evFn_eq2 (cx := cx0) (c := c_num_get) rfl Try.func28 c_num_get_eq (of_decide_eq_true (by kernel_rfl)) d_num_get (of_decide_eq_true (by kernel_rfl))]
  exact congrArg (fin Try.prog [.tmp 6, .tmp 7]) (F_num_get_eq (evFn cx0 ext0 n) n bx.length a0 a1 a2 bx)

/-- scupper/scupperref01.number -/
def kp_r01_number : Option (List Nat) := some [0, 1, 2, 6, 7, 8, 9, 25, 29]
noncomputable def c_r01_number : Code := Try.f29.body.getD .skip
noncomputable def L_r01_number_0 (_E : FnA) (_n _n0 : Nat) (s : S) : Option (Ex × S) :=
  (pv s.bx (binA Try.prog .geq 3 (get s.env 9) (.v (Go.Value.int Go.IntKind.i64 0)))).bind fun r23 =>
  condA r23.1 ((pv r23.2 (binA Try.prog .mul 50 (.v (Go.Value.int Go.IntKind.u64 256)) (get (prune kp_r01_number s.env) 8))).bind fun r24 =>
  (pv r24.2 (binA Try.prog .add 3 (get (prune kp_r01_number s.env) 1) (get (prune kp_r01_number s.env) 9))).bind fun r25 =>
  (pv r25.2 (indexAddrA Try.prog 52 (get (prune kp_r01_number s.env) 0) r25.1)).bind fun r26 =>
  (pv r26.2 (loadA Try.prog 5 r26.2 r26.1)).bind fun r27 =>
  (convA Try.prog r27.2 5 50 r27.1).bind fun r28 =>
  (pv r28.2 (binA Try.prog .add 50 r24.1 r28.1)).bind fun r29 =>
  (pv r29.2 (binA Try.prog .sub 3 (get (prune kp_r01_number (prune kp_r01_number s.env)) 9) (.v (Go.Value.int Go.IntKind.i64 1)))).bind fun r30 =>
  some (.normal, ⟨((9, r30.1) :: (8, r29.1) :: (29, r23.1) :: (prune kp_r01_number (prune kp_r01_number (prune kp_r01_number s.env)))), r30.2⟩)) (some (.exit 0, ⟨((29, r23.1) :: (prune kp_r01_number s.env)), r23.2⟩))
noncomputable def B_r01_number_0 (_E : FnA) (_n _n0 : Nat) (x9 x8 x25 x7 x6 x0 x1 x2 : AV) (y : Bx) : Option (Ex × S) :=
  (pv y (binA Try.prog .geq 3 x9 (.v (Go.Value.int Go.IntKind.i64 0)))).bind fun r15 =>
  condA r15.1 ((pv r15.2 (binA Try.prog .mul 50 (.v (Go.Value.int Go.IntKind.u64 256)) x8)).bind fun r16 =>
  (pv r16.2 (binA Try.prog .add 3 x1 x9)).bind fun r17 =>
  (pv r17.2 (indexAddrA Try.prog 52 x0 r17.1)).bind fun r18 =>
  (pv r18.2 (loadA Try.prog 5 r18.2 r18.1)).bind fun r19 =>
  (convA Try.prog r19.2 5 50 r19.1).bind fun r20 =>
  (pv r20.2 (binA Try.prog .add 50 r16.1 r20.1)).bind fun r21 =>
  (pv r21.2 (binA Try.prog .sub 3 x9 (.v (Go.Value.int Go.IntKind.i64 1)))).bind fun r22 =>
  some (.normal, ⟨[(9, r22.1), (8, r21.1), (29, r15.1), (9, x9), (8, x8), (25, x25), (7, x7), (6, x6), (0, x0), (1, x1), (2, x2)], r22.2⟩)) (some (.exit 0, ⟨[(29, r15.1), (9, x9), (8, x8), (25, x25), (7, x7), (6, x6), (0, x0), (1, x1), (2, x2)], r15.2⟩))
theorem L_r01_number_0_lit {E : FnA} {n n0 : Nat} {x9 x8 x25 x7 x6 x0 x1 x2 : AV} {y : Bx} {Q : Ex → S → Prop} (h : Ends (B_r01_number_0 E n n0 x9 x8 x25 x7 x6 x0 x1 x2 y) Q) : Ends (L_r01_number_0 E n n0 ⟨[(9, x9), (8, x8), (25, x25), (7, x7), (6, x6), (0, x0), (1, x1), (2, x2)], y⟩) Q := by
  rw [show L_r01_number_0 E n n0 ⟨[(9, x9), (8, x8), (25, x25), (7, x7), (6, x6), (0, x0), (1, x1), (2, x2)], y⟩ = B_r01_number_0 E n n0 x9 x8 x25 x7 x6 x0 x1 x2 y by kernel_rfl]
  exact h
noncomputable def K_r01_number_0 (_E : FnA) (_n _n0 : Nat) (t : S) : Option (Ex × S) :=
  some (.ret, ⟨((7, (.v (Go.Value.int Go.IntKind.i64 0))) :: (6, (get t.env 8)) :: (prune kp_r01_number t.env)), t.bx⟩)
noncomputable def X_r01_number_0 (_E : FnA) (_n _n0 : Nat) (i : Nat) (t : S) : Option (Ex × S) :=
  if i = 0 then some (.ret, ⟨((7, (.v (Go.Value.int Go.IntKind.i64 0))) :: (6, (get t.env 8)) :: (prune kp_r01_number t.env)), t.bx⟩) else some (.exit i, ⟨t.env, t.bx⟩)
noncomputable def X_r01_number_0_0 (_E : FnA) (_n _n0 : Nat) (x29 x9 x8 x25 x7 x6 x0 x1 x2 : AV) (y : Bx) : Option (Ex × S) :=
  some (.ret, ⟨[(7, (.v (Go.Value.int Go.IntKind.i64 0))), (6, x8), (29, x29), (9, x9), (8, x8), (25, x25), (7, x7), (6, x6), (0, x0), (1, x1), (2, x2)], y⟩)
theorem X_r01_number_0_0_lit {E : FnA} {n n0 : Nat} {x29 x9 x8 x25 x7 x6 x0 x1 x2 : AV} {y : Bx} {Q : Ex → S → Prop} (h : Ends (X_r01_number_0_0 E n n0 x29 x9 x8 x25 x7 x6 x0 x1 x2 y) Q) : Ends (X_r01_number_0 E n n0 0 ⟨[(29, x29), (9, x9), (8, x8), (25, x25), (7, x7), (6, x6), (0, x0), (1, x1), (2, x2)], y⟩) Q := by
  rw [show X_r01_number_0 E n n0 0 ⟨[(29, x29), (9, x9), (8, x8), (25, x25), (7, x7), (6, x6), (0, x0), (1, x1), (2, x2)], y⟩ = X_r01_number_0_0 E n n0 x29 x9 x8 x25 x7 x6 x0 x1 x2 y by kernel_rfl]
  exact h
noncomputable def F_r01_number (E : FnA) (n n0 : Nat) (a0 a1 a2 : AV) (bx : Bx) : Option (Ex × S) :=
  (pv bx (binA Try.prog .lss 3 a1 (.v (Go.Value.int Go.IntKind.i64 0)))).bind fun r1 =>
  (gsel false r1.2 (some (a1, r1.2)) r1.1).bind fun r2 =>
  (gsel false r2.2 (some (a0, r2.2)) r1.1).bind fun r3 =>
  (gsel false r3.2 (pv r3.2 (lenA Try.prog 52 r3.1)) r1.1).bind fun r4 =>
  (gsel false r4.2 (pv r4.2 (binA Try.prog .gtr 3 r2.1 r4.1)) r1.1).bind fun r5 =>
  (pv r5.2 (pickA r1.1 (.v (Go.Value.bool true)) r5.1)).bind fun r6 =>
  (gsel false r6.2 (some (a0, r6.2)) r6.1).bind fun r7 =>
  (gsel false r7.2 (pv r7.2 (lenA Try.prog 52 r7.1)) r6.1).bind fun r8 =>
  (gsel false r8.2 (some (a1, r8.2)) r6.1).bind fun r9 =>
  (gsel false r9.2 (pv r9.2 (binA Try.prog .sub 3 r8.1 r9.1)) r6.1).bind fun r10 =>
  (gsel false r10.2 (some (a2, r10.2)) r6.1).bind fun r11 =>
  (gsel false r11.2 (pv r11.2 (binA Try.prog .lss 3 r10.1 r11.1)) r6.1).bind fun r12 =>
  (pv r12.2 (pickA r6.1 (.v (Go.Value.bool true)) r12.1)).bind fun r13 =>
  condA r13.1 (some (.ret, ⟨[(7, (.v (Go.Value.int Go.IntKind.i64 7))), (6, (.v (Go.Value.int Go.IntKind.u64 0))), (25, r13.1), (7, (.v (Go.Value.int Go.IntKind.i64 0))), (6, (.v (Go.Value.int Go.IntKind.u64 0))), (0, a0), (1, a1), (2, a2)], r13.2⟩)) ((pv r13.2 (binA Try.prog .sub 3 a2 (.v (Go.Value.int Go.IntKind.i64 1)))).bind fun r14 =>
  exitA (iter ⟨[(9, r14.1), (8, (.v (Go.Value.int Go.IntKind.u64 0))), (25, r13.1), (7, (.v (Go.Value.int Go.IntKind.i64 0))), (6, (.v (Go.Value.int Go.IntKind.u64 0))), (0, a0), (1, a1), (2, a2)], r14.2⟩ (L_r01_number_0 E n n0) n ⟨[(9, r14.1), (8, (.v (Go.Value.int Go.IntKind.u64 0))), (25, r13.1), (7, (.v (Go.Value.int Go.IntKind.i64 0))), (6, (.v (Go.Value.int Go.IntKind.u64 0))), (0, a0), (1, a1), (2, a2)], r14.2⟩) (K_r01_number_0 E n n0) (X_r01_number_0 E n n0))
theorem c_r01_number_eq : Try.f29.body = some c_r01_number := by kernel_rfl
theorem d_r01_number : drawsOk Try.prog md0 c_r01_number = true := by kernel_rfl
theorem F_r01_number_eq (E : FnA) (n n0 : Nat) (a0 a1 a2 : AV) (bx : Bx) : evK Try.prog md0 E 43 kp_r01_number n n0 c_r01_number ⟨[(0, a0), (1, a1), (2, a2)], bx⟩ (fun s => some (.normal, s)) (fun i s => some (.exit i, s)) = F_r01_number E n n0 a0 a1 a2 bx := by kernel_rfl

theorem E_r01_number (n : Nat) (a0 a1 a2 : AV) (bx : Bx) : evFn cx0 ext0 (n + 1) 29 [a0, a1, a2] bx = fin Try.prog [.tmp 6, .tmp 7] (F_r01_number (evFn cx0 ext0 n) n bx.length a0 a1 a2 bx) := by
  rw [evFn_eq2 (cx := cx0) (c := c_r01_number) rfl Try.func29 c_r01_number_eq (of_decide_eq_true (by kernel_rfl)) d_r01_number (of_decide_eq_true (by kernel_rfl))]
  exact congrArg (fin Try.prog [.tmp 6, .tmp 7]) (F_r01_number_eq (evFn cx0 ext0 n) n bx.length a0 a1 a2 bx)

end Go.Sy
