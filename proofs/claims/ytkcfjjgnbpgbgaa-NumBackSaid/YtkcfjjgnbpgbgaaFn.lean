/-
  What the functions under this seat's laws read as, in the reader's words; no conditions.
-/
import Derived.Test.YtkcfjjgnbpgbgaaSyStep
import Derived.Test.YtkcfjjgnbpgbgaaProg
import Derived.KernelRfl
namespace Go.Sy
open Go.Proofs
def kpT : FuncId → Option (List Nat)
  | 3 => some [0, 1, 2, 3, 8, 9, 10, 11, 12, 13, 14, 15, 16]
  | 4 => some [0, 1, 2, 3, 8, 9, 10, 11, 13, 15, 16, 17, 18, 19, 21, 36, 68, 73]
  | 5 => some [0, 1, 2, 6, 7, 8, 9, 11, 12, 38, 43, 53]
  | 6 => some [0, 1, 4, 5, 6]
  | 7 => some [0, 1, 2, 6, 7, 8, 9, 10, 11, 12, 13, 14, 15, 16]
  | 8 => some [0, 2, 3, 4, 5, 6, 7, 8, 10]
  | 9 => some [0, 1, 4, 5, 6, 7, 8]
  | 10 => some [0, 2]
  | 11 => some [0, 1, 4, 5, 14]
  | 12 => some [0, 1, 2, 6, 7, 8, 9, 10, 11, 20, 31]
  | 13 => some [0, 1, 2, 6, 7, 8, 9, 10, 18, 27, 43]
  | 14 => some [0, 1, 4]
  | 15 => some [0, 1, 4, 5, 6, 9, 10, 11]
  | 16 => some [0, 1, 4, 5, 6, 7, 18, 27]
  | 17 => some [0, 1, 2, 6, 7, 8, 16, 26]
  | 18 => some [0, 1, 2, 6, 7, 8, 21, 31]
  | 19 => some [0, 1, 2, 3, 4]
  | 20 => some [0, 2]
  | 21 => some [0, 2, 3, 4, 5, 6]
  | 22 => some [0, 2]
  | 23 => some [0, 2]
  | 24 => some [0, 1, 4, 5, 6, 7]
  | 25 => some [0, 1, 4, 5, 6, 7]
  | 26 => some [0, 1, 4, 5]
  | 27 => some [0, 1, 4, 5, 6, 7]
  | 28 => some [0, 1, 4, 5, 6, 15]
  | 29 => some [0, 2, 3, 4, 7]
  | 30 => some [0, 2, 4]
  | 31 => some [0, 1, 4]
  | 32 => some [0, 1, 2, 6, 7, 8, 9, 25, 26, 27, 28]
  | 33 => some [0, 1, 2, 6, 7, 8, 9, 25, 29]
  | _ => none
def md_num_With : FuncId → Md
  | 30 => .boxed
  | _ => .frozen
def mdT : FuncId → FuncId → Md
  | 12 => md_num_With
  | _ => md0
noncomputable def cx0 : Cx := { P := Try.prog, md := mdT, kp := kpT }
def ext0 : FnA := fun _ _ _ => none
theorem ext0_ok (f : FuncId) (args : List AV) (bx : Bx) (r : AV) (bx' : Bx) (h : ext0 f args bx = some (r, bx')) : Sound cx0.P f args bx r bx' := by simp [ext0] at h
/-- scupper/scupperlaw01.NumBits -/
def kp_l01_NumBits : Option (List Nat) := some [0, 1, 2, 3, 8, 9, 10, 11, 12, 13, 14, 15, 16]
noncomputable def c_l01_NumBits : Code := Try.f3.body.getD .skip
noncomputable def F_l01_NumBits (E : FnA) (_n _n0 : Nat) (a0 a1 a2 a3 : AV) (bx : Bx) : Option (Ex × S) :=
  (pv bx (lenA Try.prog 22 a0)).bind fun r1 =>
  (pv r1.2 (minL false r1.1 [(.v (Go.Value.int Go.IntKind.i64 300))])).bind fun r2 =>
  (pv r2.2 (sliceA Try.prog r2.2 22 a0 none (some r2.1) none)).bind fun r3 =>
  (callA E md0 r3.2 10 [r3.1]).bind fun r4 =>
  (callA E md0 r4.2 9 [r4.1, a1]).bind fun r5 =>
  (pv r5.2 (tupA r5.1 0)).bind fun r6 =>
  (pv r6.2 (tupA r5.1 1)).bind fun r7 =>
  (callA E md0 r7.2 11 [r3.1, a1]).bind fun r8 =>
  (pv r8.2 (tupA r8.1 0)).bind fun r9 =>
  (pv r9.2 (tupA r8.1 1)).bind fun r10 =>
  (callA E md0 r10.2 10 [r3.1]).bind fun r11 =>
  (callA E md0 r11.2 12 [r11.1, a1, a3]).bind fun r12 =>
  (pv r12.2 (tupA r12.1 0)).bind fun r13 =>
  (pv r13.2 (tupA r12.1 1)).bind fun r14 =>
  (callA E md0 r14.2 13 [r3.1, a1, a3]).bind fun r15 =>
  (pv r15.2 (tupA r15.1 0)).bind fun r16 =>
  (pv r16.2 (tupA r15.1 1)).bind fun r17 =>
  (pv r17.2 (binA Try.prog .eql 4 r6.1 r9.1)).bind fun r18 =>
  (gsel true r18.2 (some (r7.1, r18.2)) r18.1).bind fun r19 =>
  (gsel true r19.2 (some (r10.1, r19.2)) r18.1).bind fun r20 =>
  (gsel true r20.2 (pv r20.2 (binA Try.prog .eql 23 r19.1 r20.1)) r18.1).bind fun r21 =>
  (pv r21.2 (pickA r18.1 r21.1 (.v (Go.Value.bool false)))).bind fun r22 =>
  (gsel true r22.2 (some (r13.1, r22.2)) r22.1).bind fun r23 =>
  (gsel true r23.2 (some (r16.1, r23.2)) r22.1).bind fun r24 =>
  (gsel true r24.2 (callA E md0 r24.2 14 [r23.1, r24.1]) r22.1).bind fun r25 =>
  (pv r25.2 (pickA r22.1 r25.1 (.v (Go.Value.bool false)))).bind fun r26 =>
  (gsel true r26.2 (some (r14.1, r26.2)) r26.1).bind fun r27 =>
  (gsel true r27.2 (some (r17.1, r27.2)) r26.1).bind fun r28 =>
  (gsel true r28.2 (pv r28.2 (binA Try.prog .eql 23 r27.1 r28.1)) r26.1).bind fun r29 =>
  (pv r29.2 (pickA r26.1 r29.1 (.v (Go.Value.bool false)))).bind fun r30 =>
  (gsel true r30.2 (some (r3.1, r30.2)) r30.1).bind fun r31 =>
  (gsel true r31.2 (callA E md0 r31.2 10 [r31.1]) r30.1).bind fun r32 =>
  (gsel true r32.2 (some (a2, r32.2)) r30.1).bind fun r33 =>
  (gsel true r33.2 (callA E md0 r33.2 15 [r32.1, r33.1]) r30.1).bind fun r34 =>
  (gsel true r34.2 (some (r3.1, r34.2)) r30.1).bind fun r35 =>
  (gsel true r35.2 (some (a2, r35.2)) r30.1).bind fun r36 =>
  (gsel true r36.2 (callA E md0 r36.2 16 [r35.1, r36.1]) r30.1).bind fun r37 =>
  (gsel true r37.2 (pv r37.2 (binA Try.prog .eql 3 r34.1 r37.1)) r30.1).bind fun r38 =>
  (pv r38.2 (pickA r30.1 r38.1 (.v (Go.Value.bool false)))).bind fun r39 =>
  (gsel true r39.2 (some (r3.1, r39.2)) r39.1).bind fun r40 =>
  (gsel true r40.2 (callA E md0 r40.2 10 [r40.1]) r39.1).bind fun r41 =>
  (gsel true r41.2 (some (a1, r41.2)) r39.1).bind fun r42 =>
  (gsel true r42.2 (some (a2, r42.2)) r39.1).bind fun r43 =>
  (gsel true r43.2 (callA E md0 r43.2 17 [r41.1, r42.1, r43.1]) r39.1).bind fun r44 =>
  (gsel true r44.2 (some (r3.1, r44.2)) r39.1).bind fun r45 =>
  (gsel true r45.2 (some (a1, r45.2)) r39.1).bind fun r46 =>
  (gsel true r46.2 (some (a2, r46.2)) r39.1).bind fun r47 =>
  (gsel true r47.2 (callA E md0 r47.2 18 [r45.1, r46.1, r47.1]) r39.1).bind fun r48 =>
  (gsel true r48.2 (pv r48.2 (binA Try.prog .eql 3 r44.1 r48.1)) r39.1).bind fun r49 =>
  (pv r49.2 (pickA r39.1 r49.1 (.v (Go.Value.bool false)))).bind fun r50 =>
  (gsel true r50.2 (callA E md0 r50.2 19 []) r50.1).bind fun r51 =>
  (pv r51.2 (pickA r50.1 r51.1 (.v (Go.Value.bool false)))).bind fun r52 =>
  some (.ret, ⟨[(8, r52.1), (16, r17.1), (15, r16.1), (14, r14.1), (13, r13.1), (12, r10.1), (11, r9.1), (10, r7.1), (9, r6.1), (0, r3.1), (8, (.v (Go.Value.bool false))), (0, a0), (1, a1), (2, a2), (3, a3)], r52.2⟩)
theorem c_l01_NumBits_eq : Try.f3.body = some c_l01_NumBits := by kernel_rfl
theorem d_l01_NumBits : drawsOk Try.prog md0 c_l01_NumBits = true := by kernel_rfl
theorem F_l01_NumBits_eq (E : FnA) (n n0 : Nat) (a0 a1 a2 a3 : AV) (bx : Bx) : evK Try.prog md0 E 93 kp_l01_NumBits n n0 c_l01_NumBits ⟨[(0, a0), (1, a1), (2, a2), (3, a3)], bx⟩ (fun s => some (.normal, s)) (fun i s => some (.exit i, s)) = F_l01_NumBits E n n0 a0 a1 a2 a3 bx := by kernel_rfl

theorem E_l01_NumBits (n : Nat) (a0 a1 a2 a3 : AV) (bx : Bx) : evFn cx0 ext0 (n + 1) 3 [a0, a1, a2, a3] bx = fin Try.prog [.tmp 8] (F_l01_NumBits (evFn cx0 ext0 n) n bx.length a0 a1 a2 a3 bx) := by
  rw [evFn_eq2 (cx := cx0) (c := c_l01_NumBits) rfl Try.func3 c_l01_NumBits_eq (of_decide_eq_true (by kernel_rfl)) d_l01_NumBits (of_decide_eq_true (by kernel_rfl))]
  exact congrArg (fin Try.prog [.tmp 8]) (F_l01_NumBits_eq (evFn cx0 ext0 n) n bx.length a0 a1 a2 a3 bx)

/-- scupper/scupperlaw01.NumOne -/
def kp_l01_NumOne : Option (List Nat) := some [0, 1, 2, 3, 8, 9, 10, 11, 13, 15, 16, 17, 18, 19, 21, 36, 68, 73]
noncomputable def c_l01_NumOne : Code := Try.f4.body.getD .skip
noncomputable def F_l01_NumOne (E : FnA) (_n _n0 : Nat) (a0 a1 a2 a3 : AV) (bx : Bx) : Option (Ex × S) :=
  (callA E md0 bx 19 []).bind fun r1 =>
  (pv r1.2 (unA .not r1.1)).bind fun r2 =>
  condA r2.1 (some (.ret, ⟨[(8, (.v (Go.Value.bool false))), (21, r2.1), (8, (.v (Go.Value.bool false))), (0, a0), (1, a1), (2, a2), (3, a3)], r2.2⟩)) ((pv r2.2 (lenA Try.prog 22 a0)).bind fun r3 =>
  (pv r3.2 (minL false r3.1 [(.v (Go.Value.int Go.IntKind.i64 300))])).bind fun r4 =>
  (pv r4.2 (sliceA Try.prog r4.2 22 a0 none (some r4.1) none)).bind fun r5 =>
  (callA E md0 r5.2 10 [r5.1]).bind fun r6 =>
  (callA E md0 r6.2 12 [r6.1, a1, a3]).bind fun r7 =>
  (pv r7.2 (tupA r7.1 0)).bind fun r8 =>
  (pv r8.2 (tupA r7.1 1)).bind fun r9 =>
  (pv r9.2 (binA Try.prog .neq 23 r9.1 (.v (Go.Value.int Go.IntKind.i64 0)))).bind fun r10 =>
  condA r10.1 ((pv r10.2 (lenA Try.prog 22 r8.1)).bind fun r11 =>
  (pv r11.2 (binA Try.prog .eql 3 r11.1 (.v (Go.Value.int Go.IntKind.i64 0)))).bind fun r12 =>
  some (.ret, ⟨[(8, r12.1), (36, r10.1), (10, r9.1), (9, r8.1), (0, r5.1), (21, r2.1), (8, (.v (Go.Value.bool false))), (0, a0), (1, a1), (2, a2), (3, a3)], r12.2⟩)) ((callA E md0 r10.2 9 [r5.1, a1]).bind fun r13 =>
  (pv r13.2 (tupA r13.1 0)).bind fun r14 =>
  (pv r14.2 (tupA r13.1 1)).bind fun r15 =>
  (callA E md0 r15.2 9 [r8.1, a1]).bind fun r16 =>
  (pv r16.2 (tupA r16.1 0)).bind fun r17 =>
  (pv r17.2 (tupA r16.1 1)).bind fun r18 =>
  (callA E md0 r18.2 9 [r5.1, a2]).bind fun r19 =>
  (pv r19.2 (tupA r19.1 0)).bind fun r20 =>
  (pv r20.2 (tupA r19.1 1)).bind fun r21 =>
  (callA E md0 r21.2 9 [r8.1, a2]).bind fun r22 =>
  (pv r22.2 (tupA r22.1 0)).bind fun r23 =>
  (pv r23.2 (tupA r22.1 1)).bind fun r24 =>
  (gsel true r24.2 (some (r14.1, r24.2)) a3).bind fun r25 =>
  (gsel true r25.2 (pv r25.2 (unA .not r25.1)) a3).bind fun r26 =>
  (pv r26.2 (pickA a3 r26.1 (.v (Go.Value.bool false)))).bind fun r27 =>
  condA r27.1 ((pv r27.2 (unA .not a3)).bind fun r28 =>
  (gsel true r28.2 (some (r14.1, r28.2)) r28.1).bind fun r29 =>
  (pv r29.2 (pickA r28.1 r29.1 (.v (Go.Value.bool false)))).bind fun r30 =>
  condA r30.1 ((pv r30.2 (binA Try.prog .eql 4 r17.1 a3)).bind fun r31 =>
  (gsel true r31.2 (some (r21.1, r31.2)) r31.1).bind fun r32 =>
  (gsel true r32.2 (some (r24.1, r32.2)) r31.1).bind fun r33 =>
  (gsel true r33.2 (pv r33.2 (binA Try.prog .eql 23 r32.1 r33.1)) r31.1).bind fun r34 =>
  (pv r34.2 (pickA r31.1 r34.1 (.v (Go.Value.bool false)))).bind fun r35 =>
  (gsel true r35.2 (some (a1, r35.2)) r35.1).bind fun r36 =>
  (gsel true r36.2 (some (a2, r36.2)) r35.1).bind fun r37 =>
  (gsel true r37.2 (pv r37.2 (binA Try.prog .eql 3 r36.1 r37.1)) r35.1).bind fun r38 =>
  (gsel true r38.2 (some (r38.1, r38.2)) r35.1).bind fun r39 =>
  (gsel false r39.2 (some (r20.1, r39.2)) r39.1).bind fun r40 =>
  (gsel false r40.2 (some (r23.1, r40.2)) r39.1).bind fun r41 =>
  (gsel false r41.2 (pv r41.2 (binA Try.prog .eql 4 r40.1 r41.1)) r39.1).bind fun r42 =>
  (gsel true r42.2 (pv r42.2 (pickA r39.1 (.v (Go.Value.bool true)) r42.1)) r35.1).bind fun r43 =>
  (pv r43.2 (pickA r35.1 r43.1 (.v (Go.Value.bool false)))).bind fun r44 =>
  (gsel true r44.2 (some (r8.1, r44.2)) r44.1).bind fun r45 =>
  (gsel true r45.2 (pv r45.2 (lenA Try.prog 22 r45.1)) r44.1).bind fun r46 =>
  (gsel true r46.2 (some (r5.1, r46.2)) r44.1).bind fun r47 =>
  (gsel true r47.2 (pv r47.2 (lenA Try.prog 22 r47.1)) r44.1).bind fun r48 =>
  (gsel true r48.2 (pv r48.2 (binA Try.prog .eql 3 r46.1 r48.1)) r44.1).bind fun r49 =>
  (pv r49.2 (pickA r44.1 r49.1 (.v (Go.Value.bool false)))).bind fun r50 =>
  (gsel true r50.2 (some (r8.1, r50.2)) r50.1).bind fun r51 =>
  (gsel true r51.2 (some (r8.1, r51.2)) r50.1).bind fun r52 =>
  (gsel true r52.2 (pv r52.2 (lenA Try.prog 22 r52.1)) r50.1).bind fun r53 =>
  (gsel true r53.2 (pv r53.2 (binA Try.prog .mul 3 (.v (Go.Value.int Go.IntKind.i64 8)) r53.1)) r50.1).bind fun r54 =>
  (gsel true r54.2 (callA E md0 r54.2 15 [r51.1, r54.1]) r50.1).bind fun r55 =>
  (gsel true r55.2 (some (r5.1, r55.2)) r50.1).bind fun r56 =>
  (gsel true r56.2 (some (r5.1, r56.2)) r50.1).bind fun r57 =>
  (gsel true r57.2 (pv r57.2 (lenA Try.prog 22 r57.1)) r50.1).bind fun r58 =>
  (gsel true r58.2 (pv r58.2 (binA Try.prog .mul 3 (.v (Go.Value.int Go.IntKind.i64 8)) r58.1)) r50.1).bind fun r59 =>
  (gsel true r59.2 (callA E md0 r59.2 15 [r56.1, r59.1]) r50.1).bind fun r60 =>
  (gsel true r60.2 (pv r60.2 (binA Try.prog .sub 3 r55.1 r60.1)) r50.1).bind fun r61 =>
  (gsel true r61.2 (some ((.v (Go.Value.int Go.IntKind.i64 (-1))), r61.2)) r50.1).bind fun r62 =>
  (gsel true r62.2 (pv r62.2 (binA Try.prog .eql 3 r61.1 r62.1)) r50.1).bind fun r63 =>
  (pv r63.2 (pickA r50.1 r63.1 (.v (Go.Value.bool false)))).bind fun r64 =>
  some (.ret, ⟨[(8, r64.1), (19, (.v (Go.Value.int Go.IntKind.i64 (-1)))), (73, r30.1), (19, (.v (Go.Value.int Go.IntKind.i64 1))), (68, r27.1), (19, (.v (Go.Value.int Go.IntKind.i64 0))), (18, r24.1), (17, r23.1), (16, r21.1), (15, r20.1), (13, r17.1), (11, r14.1), (36, r10.1), (10, r9.1), (9, r8.1), (0, r5.1), (21, r2.1), (8, (.v (Go.Value.bool false))), (0, a0), (1, a1), (2, a2), (3, a3)], r64.2⟩)) ((pv r30.2 (binA Try.prog .eql 4 r17.1 a3)).bind fun r65 =>
  (gsel true r65.2 (some (r21.1, r65.2)) r65.1).bind fun r66 =>
  (gsel true r66.2 (some (r24.1, r66.2)) r65.1).bind fun r67 =>
  (gsel true r67.2 (pv r67.2 (binA Try.prog .eql 23 r66.1 r67.1)) r65.1).bind fun r68 =>
  (pv r68.2 (pickA r65.1 r68.1 (.v (Go.Value.bool false)))).bind fun r69 =>
  (gsel true r69.2 (some (a1, r69.2)) r69.1).bind fun r70 =>
  (gsel true r70.2 (some (a2, r70.2)) r69.1).bind fun r71 =>
  (gsel true r71.2 (pv r71.2 (binA Try.prog .eql 3 r70.1 r71.1)) r69.1).bind fun r72 =>
  (gsel true r72.2 (some (r72.1, r72.2)) r69.1).bind fun r73 =>
  (gsel false r73.2 (some (r20.1, r73.2)) r73.1).bind fun r74 =>
  (gsel false r74.2 (some (r23.1, r74.2)) r73.1).bind fun r75 =>
  (gsel false r75.2 (pv r75.2 (binA Try.prog .eql 4 r74.1 r75.1)) r73.1).bind fun r76 =>
  (gsel true r76.2 (pv r76.2 (pickA r73.1 (.v (Go.Value.bool true)) r76.1)) r69.1).bind fun r77 =>
  (pv r77.2 (pickA r69.1 r77.1 (.v (Go.Value.bool false)))).bind fun r78 =>
  (gsel true r78.2 (some (r8.1, r78.2)) r78.1).bind fun r79 =>
  (gsel true r79.2 (pv r79.2 (lenA Try.prog 22 r79.1)) r78.1).bind fun r80 =>
  (gsel true r80.2 (some (r5.1, r80.2)) r78.1).bind fun r81 =>
  (gsel true r81.2 (pv r81.2 (lenA Try.prog 22 r81.1)) r78.1).bind fun r82 =>
  (gsel true r82.2 (pv r82.2 (binA Try.prog .eql 3 r80.1 r82.1)) r78.1).bind fun r83 =>
  (pv r83.2 (pickA r78.1 r83.1 (.v (Go.Value.bool false)))).bind fun r84 =>
  (gsel true r84.2 (some (r8.1, r84.2)) r84.1).bind fun r85 =>
  (gsel true r85.2 (some (r8.1, r85.2)) r84.1).bind fun r86 =>
  (gsel true r86.2 (pv r86.2 (lenA Try.prog 22 r86.1)) r84.1).bind fun r87 =>
  (gsel true r87.2 (pv r87.2 (binA Try.prog .mul 3 (.v (Go.Value.int Go.IntKind.i64 8)) r87.1)) r84.1).bind fun r88 =>
  (gsel true r88.2 (callA E md0 r88.2 15 [r85.1, r88.1]) r84.1).bind fun r89 =>
  (gsel true r89.2 (some (r5.1, r89.2)) r84.1).bind fun r90 =>
  (gsel true r90.2 (some (r5.1, r90.2)) r84.1).bind fun r91 =>
  (gsel true r91.2 (pv r91.2 (lenA Try.prog 22 r91.1)) r84.1).bind fun r92 =>
  (gsel true r92.2 (pv r92.2 (binA Try.prog .mul 3 (.v (Go.Value.int Go.IntKind.i64 8)) r92.1)) r84.1).bind fun r93 =>
  (gsel true r93.2 (callA E md0 r93.2 15 [r90.1, r93.1]) r84.1).bind fun r94 =>
  (gsel true r94.2 (pv r94.2 (binA Try.prog .sub 3 r89.1 r94.1)) r84.1).bind fun r95 =>
  (gsel true r95.2 (some ((.v (Go.Value.int Go.IntKind.i64 1)), r95.2)) r84.1).bind fun r96 =>
  (gsel true r96.2 (pv r96.2 (binA Try.prog .eql 3 r95.1 r96.1)) r84.1).bind fun r97 =>
  (pv r97.2 (pickA r84.1 r97.1 (.v (Go.Value.bool false)))).bind fun r98 =>
  some (.ret, ⟨[(8, r98.1), (73, r30.1), (19, (.v (Go.Value.int Go.IntKind.i64 1))), (68, r27.1), (19, (.v (Go.Value.int Go.IntKind.i64 0))), (18, r24.1), (17, r23.1), (16, r21.1), (15, r20.1), (13, r17.1), (11, r14.1), (36, r10.1), (10, r9.1), (9, r8.1), (0, r5.1), (21, r2.1), (8, (.v (Go.Value.bool false))), (0, a0), (1, a1), (2, a2), (3, a3)], r98.2⟩))) ((pv r27.2 (unA .not a3)).bind fun r99 =>
  (gsel true r99.2 (some (r14.1, r99.2)) r99.1).bind fun r100 =>
  (pv r100.2 (pickA r99.1 r100.1 (.v (Go.Value.bool false)))).bind fun r101 =>
  condA r101.1 ((pv r101.2 (binA Try.prog .eql 4 r17.1 a3)).bind fun r102 =>
  (gsel true r102.2 (some (r21.1, r102.2)) r102.1).bind fun r103 =>
  (gsel true r103.2 (some (r24.1, r103.2)) r102.1).bind fun r104 =>
  (gsel true r104.2 (pv r104.2 (binA Try.prog .eql 23 r103.1 r104.1)) r102.1).bind fun r105 =>
  (pv r105.2 (pickA r102.1 r105.1 (.v (Go.Value.bool false)))).bind fun r106 =>
  (gsel true r106.2 (some (a1, r106.2)) r106.1).bind fun r107 =>
  (gsel true r107.2 (some (a2, r107.2)) r106.1).bind fun r108 =>
  (gsel true r108.2 (pv r108.2 (binA Try.prog .eql 3 r107.1 r108.1)) r106.1).bind fun r109 =>
  (gsel true r109.2 (some (r109.1, r109.2)) r106.1).bind fun r110 =>
  (gsel false r110.2 (some (r20.1, r110.2)) r110.1).bind fun r111 =>
  (gsel false r111.2 (some (r23.1, r111.2)) r110.1).bind fun r112 =>
  (gsel false r112.2 (pv r112.2 (binA Try.prog .eql 4 r111.1 r112.1)) r110.1).bind fun r113 =>
  (gsel true r113.2 (pv r113.2 (pickA r110.1 (.v (Go.Value.bool true)) r113.1)) r106.1).bind fun r114 =>
  (pv r114.2 (pickA r106.1 r114.1 (.v (Go.Value.bool false)))).bind fun r115 =>
  (gsel true r115.2 (some (r8.1, r115.2)) r115.1).bind fun r116 =>
  (gsel true r116.2 (pv r116.2 (lenA Try.prog 22 r116.1)) r115.1).bind fun r117 =>
  (gsel true r117.2 (some (r5.1, r117.2)) r115.1).bind fun r118 =>
  (gsel true r118.2 (pv r118.2 (lenA Try.prog 22 r118.1)) r115.1).bind fun r119 =>
  (gsel true r119.2 (pv r119.2 (binA Try.prog .eql 3 r117.1 r119.1)) r115.1).bind fun r120 =>
  (pv r120.2 (pickA r115.1 r120.1 (.v (Go.Value.bool false)))).bind fun r121 =>
  (gsel true r121.2 (some (r8.1, r121.2)) r121.1).bind fun r122 =>
  (gsel true r122.2 (some (r8.1, r122.2)) r121.1).bind fun r123 =>
  (gsel true r123.2 (pv r123.2 (lenA Try.prog 22 r123.1)) r121.1).bind fun r124 =>
  (gsel true r124.2 (pv r124.2 (binA Try.prog .mul 3 (.v (Go.Value.int Go.IntKind.i64 8)) r124.1)) r121.1).bind fun r125 =>
  (gsel true r125.2 (callA E md0 r125.2 15 [r122.1, r125.1]) r121.1).bind fun r126 =>
  (gsel true r126.2 (some (r5.1, r126.2)) r121.1).bind fun r127 =>
  (gsel true r127.2 (some (r5.1, r127.2)) r121.1).bind fun r128 =>
  (gsel true r128.2 (pv r128.2 (lenA Try.prog 22 r128.1)) r121.1).bind fun r129 =>
  (gsel true r129.2 (pv r129.2 (binA Try.prog .mul 3 (.v (Go.Value.int Go.IntKind.i64 8)) r129.1)) r121.1).bind fun r130 =>
  (gsel true r130.2 (callA E md0 r130.2 15 [r127.1, r130.1]) r121.1).bind fun r131 =>
  (gsel true r131.2 (pv r131.2 (binA Try.prog .sub 3 r126.1 r131.1)) r121.1).bind fun r132 =>
  (gsel true r132.2 (some ((.v (Go.Value.int Go.IntKind.i64 (-1))), r132.2)) r121.1).bind fun r133 =>
  (gsel true r133.2 (pv r133.2 (binA Try.prog .eql 3 r132.1 r133.1)) r121.1).bind fun r134 =>
  (pv r134.2 (pickA r121.1 r134.1 (.v (Go.Value.bool false)))).bind fun r135 =>
  some (.ret, ⟨[(8, r135.1), (19, (.v (Go.Value.int Go.IntKind.i64 (-1)))), (73, r101.1), (68, r27.1), (19, (.v (Go.Value.int Go.IntKind.i64 0))), (18, r24.1), (17, r23.1), (16, r21.1), (15, r20.1), (13, r17.1), (11, r14.1), (36, r10.1), (10, r9.1), (9, r8.1), (0, r5.1), (21, r2.1), (8, (.v (Go.Value.bool false))), (0, a0), (1, a1), (2, a2), (3, a3)], r135.2⟩)) ((pv r101.2 (binA Try.prog .eql 4 r17.1 a3)).bind fun r136 =>
  (gsel true r136.2 (some (r21.1, r136.2)) r136.1).bind fun r137 =>
  (gsel true r137.2 (some (r24.1, r137.2)) r136.1).bind fun r138 =>
  (gsel true r138.2 (pv r138.2 (binA Try.prog .eql 23 r137.1 r138.1)) r136.1).bind fun r139 =>
  (pv r139.2 (pickA r136.1 r139.1 (.v (Go.Value.bool false)))).bind fun r140 =>
  (gsel true r140.2 (some (a1, r140.2)) r140.1).bind fun r141 =>
  (gsel true r141.2 (some (a2, r141.2)) r140.1).bind fun r142 =>
  (gsel true r142.2 (pv r142.2 (binA Try.prog .eql 3 r141.1 r142.1)) r140.1).bind fun r143 =>
  (gsel true r143.2 (some (r143.1, r143.2)) r140.1).bind fun r144 =>
  (gsel false r144.2 (some (r20.1, r144.2)) r144.1).bind fun r145 =>
  (gsel false r145.2 (some (r23.1, r145.2)) r144.1).bind fun r146 =>
  (gsel false r146.2 (pv r146.2 (binA Try.prog .eql 4 r145.1 r146.1)) r144.1).bind fun r147 =>
  (gsel true r147.2 (pv r147.2 (pickA r144.1 (.v (Go.Value.bool true)) r147.1)) r140.1).bind fun r148 =>
  (pv r148.2 (pickA r140.1 r148.1 (.v (Go.Value.bool false)))).bind fun r149 =>
  (gsel true r149.2 (some (r8.1, r149.2)) r149.1).bind fun r150 =>
  (gsel true r150.2 (pv r150.2 (lenA Try.prog 22 r150.1)) r149.1).bind fun r151 =>
  (gsel true r151.2 (some (r5.1, r151.2)) r149.1).bind fun r152 =>
  (gsel true r152.2 (pv r152.2 (lenA Try.prog 22 r152.1)) r149.1).bind fun r153 =>
  (gsel true r153.2 (pv r153.2 (binA Try.prog .eql 3 r151.1 r153.1)) r149.1).bind fun r154 =>
  (pv r154.2 (pickA r149.1 r154.1 (.v (Go.Value.bool false)))).bind fun r155 =>
  (gsel true r155.2 (some (r8.1, r155.2)) r155.1).bind fun r156 =>
  (gsel true r156.2 (some (r8.1, r156.2)) r155.1).bind fun r157 =>
  (gsel true r157.2 (pv r157.2 (lenA Try.prog 22 r157.1)) r155.1).bind fun r158 =>
  (gsel true r158.2 (pv r158.2 (binA Try.prog .mul 3 (.v (Go.Value.int Go.IntKind.i64 8)) r158.1)) r155.1).bind fun r159 =>
  (gsel true r159.2 (callA E md0 r159.2 15 [r156.1, r159.1]) r155.1).bind fun r160 =>
  (gsel true r160.2 (some (r5.1, r160.2)) r155.1).bind fun r161 =>
  (gsel true r161.2 (some (r5.1, r161.2)) r155.1).bind fun r162 =>
  (gsel true r162.2 (pv r162.2 (lenA Try.prog 22 r162.1)) r155.1).bind fun r163 =>
  (gsel true r163.2 (pv r163.2 (binA Try.prog .mul 3 (.v (Go.Value.int Go.IntKind.i64 8)) r163.1)) r155.1).bind fun r164 =>
  (gsel true r164.2 (callA E md0 r164.2 15 [r161.1, r164.1]) r155.1).bind fun r165 =>
  (gsel true r165.2 (pv r165.2 (binA Try.prog .sub 3 r160.1 r165.1)) r155.1).bind fun r166 =>
  (gsel true r166.2 (some ((.v (Go.Value.int Go.IntKind.i64 0)), r166.2)) r155.1).bind fun r167 =>
  (gsel true r167.2 (pv r167.2 (binA Try.prog .eql 3 r166.1 r167.1)) r155.1).bind fun r168 =>
  (pv r168.2 (pickA r155.1 r168.1 (.v (Go.Value.bool false)))).bind fun r169 =>
  some (.ret, ⟨[(8, r169.1), (73, r101.1), (68, r27.1), (19, (.v (Go.Value.int Go.IntKind.i64 0))), (18, r24.1), (17, r23.1), (16, r21.1), (15, r20.1), (13, r17.1), (11, r14.1), (36, r10.1), (10, r9.1), (9, r8.1), (0, r5.1), (21, r2.1), (8, (.v (Go.Value.bool false))), (0, a0), (1, a1), (2, a2), (3, a3)], r169.2⟩)))))
theorem c_l01_NumOne_eq : Try.f4.body = some c_l01_NumOne := by kernel_rfl
theorem d_l01_NumOne : drawsOk Try.prog md0 c_l01_NumOne = true := by kernel_rfl
theorem F_l01_NumOne_eq (E : FnA) (n n0 : Nat) (a0 a1 a2 a3 : AV) (bx : Bx) : evK Try.prog md0 E 114 kp_l01_NumOne n n0 c_l01_NumOne ⟨[(0, a0), (1, a1), (2, a2), (3, a3)], bx⟩ (fun s => some (.normal, s)) (fun i s => some (.exit i, s)) = F_l01_NumOne E n n0 a0 a1 a2 a3 bx := by kernel_rfl

theorem E_l01_NumOne (n : Nat) (a0 a1 a2 a3 : AV) (bx : Bx) : evFn cx0 ext0 (n + 1) 4 [a0, a1, a2, a3] bx = fin Try.prog [.tmp 8] (F_l01_NumOne (evFn cx0 ext0 n) n bx.length a0 a1 a2 a3 bx) := by
  rw [evFn_eq2 (cx := cx0) (c := c_l01_NumOne) rfl Try.func4 c_l01_NumOne_eq (of_decide_eq_true (by kernel_rfl)) d_l01_NumOne (of_decide_eq_true (by kernel_rfl))]
  exact congrArg (fin Try.prog [.tmp 8]) (F_l01_NumOne_eq (evFn cx0 ext0 n) n bx.length a0 a1 a2 a3 bx)

/-- scupper/scupperlaw01.NumCounts -/
def kp_l01_NumCounts : Option (List Nat) := some [0, 1, 2, 6, 7, 8, 9, 11, 12, 38, 43, 53]
noncomputable def c_l01_NumCounts : Code := Try.f5.body.getD .skip
noncomputable def L_l01_NumCounts_0 (E : FnA) (_n _n0 : Nat) (s : S) : Option (Ex × S) :=
  (pv s.bx (binA Try.prog .lss 3 (get s.env 8) (get s.env 7))).bind fun r24 =>
  condA r24.1 ((callA E md0 r24.2 9 [(get (prune kp_l01_NumCounts s.env) 0), (get (prune kp_l01_NumCounts s.env) 8)]).bind fun r25 =>
  (pv r25.2 (tupA r25.1 0)).bind fun r26 =>
  (pv r26.2 (tupA r25.1 1)).bind fun r27 =>
  (pv r27.2 (unA .not r26.1)).bind fun r28 =>
  condA r28.1 (some (.ret, ⟨((6, (.v (Go.Value.bool false))) :: (53, r28.1) :: (9, r26.1) :: (43, r24.1) :: (prune kp_l01_NumCounts (prune kp_l01_NumCounts (prune kp_l01_NumCounts (prune kp_l01_NumCounts s.env))))), r28.2⟩)) ((pv r28.2 (binA Try.prog .add 3 (get (prune kp_l01_NumCounts (prune kp_l01_NumCounts (prune kp_l01_NumCounts s.env))) 8) (.v (Go.Value.int Go.IntKind.i64 1)))).bind fun r29 =>
  some (.normal, ⟨((8, r29.1) :: (53, r28.1) :: (9, r26.1) :: (43, r24.1) :: (prune kp_l01_NumCounts (prune kp_l01_NumCounts (prune kp_l01_NumCounts (prune kp_l01_NumCounts s.env))))), r29.2⟩))) (some (.exit 0, ⟨((43, r24.1) :: (prune kp_l01_NumCounts s.env)), r24.2⟩))
noncomputable def B_l01_NumCounts_0 (E : FnA) (_n _n0 : Nat) (x8 x38 x7 x0 x6 x0_1 x1 x2 : AV) (y : Bx) : Option (Ex × S) :=
  (pv y (binA Try.prog .lss 3 x8 x7)).bind fun r18 =>
  condA r18.1 ((callA E md0 r18.2 9 [x0, x8]).bind fun r19 =>
  (pv r19.2 (tupA r19.1 0)).bind fun r20 =>
  (pv r20.2 (tupA r19.1 1)).bind fun r21 =>
  (pv r21.2 (unA .not r20.1)).bind fun r22 =>
  condA r22.1 (some (.ret, ⟨[(6, (.v (Go.Value.bool false))), (53, r22.1), (9, r20.1), (43, r18.1), (8, x8), (38, x38), (7, x7), (0, x0), (6, x6), (0, x0_1), (1, x1), (2, x2)], r22.2⟩)) ((pv r22.2 (binA Try.prog .add 3 x8 (.v (Go.Value.int Go.IntKind.i64 1)))).bind fun r23 =>
  some (.normal, ⟨[(8, r23.1), (53, r22.1), (9, r20.1), (43, r18.1), (8, x8), (38, x38), (7, x7), (0, x0), (6, x6), (0, x0_1), (1, x1), (2, x2)], r23.2⟩))) (some (.exit 0, ⟨[(43, r18.1), (8, x8), (38, x38), (7, x7), (0, x0), (6, x6), (0, x0_1), (1, x1), (2, x2)], r18.2⟩))
theorem L_l01_NumCounts_0_lit {E : FnA} {n n0 : Nat} {x8 x38 x7 x0 x6 x0_1 x1 x2 : AV} {y : Bx} {Q : Ex → S → Prop} (h : Ends (B_l01_NumCounts_0 E n n0 x8 x38 x7 x0 x6 x0_1 x1 x2 y) Q) : Ends (L_l01_NumCounts_0 E n n0 ⟨[(8, x8), (38, x38), (7, x7), (0, x0), (6, x6), (0, x0_1), (1, x1), (2, x2)], y⟩) Q := by
  rw [show L_l01_NumCounts_0 E n n0 ⟨[(8, x8), (38, x38), (7, x7), (0, x0), (6, x6), (0, x0_1), (1, x1), (2, x2)], y⟩ = B_l01_NumCounts_0 E n n0 x8 x38 x7 x0 x6 x0_1 x1 x2 y by kernel_rfl]
  exact h
noncomputable def K_l01_NumCounts_0 (E : FnA) (_n _n0 : Nat) (t : S) : Option (Ex × S) :=
  (pv t.bx (minL true (get t.env 7) [(.v (Go.Value.int Go.IntKind.i64 0))])).bind fun r44 =>
  (callA E md0 r44.2 9 [(get t.env 0), r44.1]).bind fun r45 =>
  (pv r45.2 (tupA r45.1 0)).bind fun r46 =>
  (pv r46.2 (tupA r45.1 1)).bind fun r47 =>
  (pv r47.2 (binA Try.prog .lss 3 (get (prune kp_l01_NumCounts t.env) 7) (.v (Go.Value.int Go.IntKind.i64 0)))).bind fun r48 =>
  (gsel false r48.2 (some (r46.1, r48.2)) r48.1).bind fun r49 =>
  (gsel false r49.2 (pv r49.2 (unA .not r49.1)) r48.1).bind fun r50 =>
  (gsel false r50.2 (some (r50.1, r50.2)) r48.1).bind fun r51 =>
  (gsel true r51.2 (some (r47.1, r51.2)) r51.1).bind fun r52 =>
  (gsel true r52.2 (pv r52.2 (binA Try.prog .eql 23 r52.1 (.v (Go.Value.int Go.IntKind.i64 0)))) r51.1).bind fun r53 =>
  (gsel false r53.2 (pv r53.2 (pickA r51.1 r53.1 (.v (Go.Value.bool false)))) r48.1).bind fun r54 =>
  (pv r54.2 (pickA r48.1 (.v (Go.Value.bool true)) r54.1)).bind fun r55 =>
  (gsel true r55.2 (callA E md0 r55.2 19 []) r55.1).bind fun r56 =>
  (pv r56.2 (pickA r55.1 r56.1 (.v (Go.Value.bool false)))).bind fun r57 =>
  some (.ret, ⟨((6, r57.1) :: (12, r47.1) :: (11, r46.1) :: (prune kp_l01_NumCounts (prune kp_l01_NumCounts t.env))), r57.2⟩)
noncomputable def X_l01_NumCounts_0 (E : FnA) (_n _n0 : Nat) (i : Nat) (t : S) : Option (Ex × S) :=
  if i = 0 then (pv t.bx (minL true (get t.env 7) [(.v (Go.Value.int Go.IntKind.i64 0))])).bind fun r30 =>
  (callA E md0 r30.2 9 [(get t.env 0), r30.1]).bind fun r31 =>
  (pv r31.2 (tupA r31.1 0)).bind fun r32 =>
  (pv r32.2 (tupA r31.1 1)).bind fun r33 =>
  (pv r33.2 (binA Try.prog .lss 3 (get (prune kp_l01_NumCounts t.env) 7) (.v (Go.Value.int Go.IntKind.i64 0)))).bind fun r34 =>
  (gsel false r34.2 (some (r32.1, r34.2)) r34.1).bind fun r35 =>
  (gsel false r35.2 (pv r35.2 (unA .not r35.1)) r34.1).bind fun r36 =>
  (gsel false r36.2 (some (r36.1, r36.2)) r34.1).bind fun r37 =>
  (gsel true r37.2 (some (r33.1, r37.2)) r37.1).bind fun r38 =>
  (gsel true r38.2 (pv r38.2 (binA Try.prog .eql 23 r38.1 (.v (Go.Value.int Go.IntKind.i64 0)))) r37.1).bind fun r39 =>
  (gsel false r39.2 (pv r39.2 (pickA r37.1 r39.1 (.v (Go.Value.bool false)))) r34.1).bind fun r40 =>
  (pv r40.2 (pickA r34.1 (.v (Go.Value.bool true)) r40.1)).bind fun r41 =>
  (gsel true r41.2 (callA E md0 r41.2 19 []) r41.1).bind fun r42 =>
  (pv r42.2 (pickA r41.1 r42.1 (.v (Go.Value.bool false)))).bind fun r43 =>
  some (.ret, ⟨((6, r43.1) :: (12, r33.1) :: (11, r32.1) :: (prune kp_l01_NumCounts (prune kp_l01_NumCounts t.env))), r43.2⟩) else some (.exit i, ⟨t.env, t.bx⟩)
noncomputable def X_l01_NumCounts_0_0 (E : FnA) (_n _n0 : Nat) (x43 x8 x38 x7 x0 x6 x0_1 x1 x2 : AV) (y : Bx) : Option (Ex × S) :=
  (pv y (minL true x7 [(.v (Go.Value.int Go.IntKind.i64 0))])).bind fun r58 =>
  (callA E md0 r58.2 9 [x0, r58.1]).bind fun r59 =>
  (pv r59.2 (tupA r59.1 0)).bind fun r60 =>
  (pv r60.2 (tupA r59.1 1)).bind fun r61 =>
  (pv r61.2 (binA Try.prog .lss 3 x7 (.v (Go.Value.int Go.IntKind.i64 0)))).bind fun r62 =>
  (gsel false r62.2 (some (r60.1, r62.2)) r62.1).bind fun r63 =>
  (gsel false r63.2 (pv r63.2 (unA .not r63.1)) r62.1).bind fun r64 =>
  (gsel false r64.2 (some (r64.1, r64.2)) r62.1).bind fun r65 =>
  (gsel true r65.2 (some (r61.1, r65.2)) r65.1).bind fun r66 =>
  (gsel true r66.2 (pv r66.2 (binA Try.prog .eql 23 r66.1 (.v (Go.Value.int Go.IntKind.i64 0)))) r65.1).bind fun r67 =>
  (gsel false r67.2 (pv r67.2 (pickA r65.1 r67.1 (.v (Go.Value.bool false)))) r62.1).bind fun r68 =>
  (pv r68.2 (pickA r62.1 (.v (Go.Value.bool true)) r68.1)).bind fun r69 =>
  (gsel true r69.2 (callA E md0 r69.2 19 []) r69.1).bind fun r70 =>
  (pv r70.2 (pickA r69.1 r70.1 (.v (Go.Value.bool false)))).bind fun r71 =>
  some (.ret, ⟨[(6, r71.1), (12, r61.1), (11, r60.1), (43, x43), (8, x8), (38, x38), (7, x7), (0, x0), (6, x6), (0, x0_1), (1, x1), (2, x2)], r71.2⟩)
theorem X_l01_NumCounts_0_0_lit {E : FnA} {n n0 : Nat} {x43 x8 x38 x7 x0 x6 x0_1 x1 x2 : AV} {y : Bx} {Q : Ex → S → Prop} (h : Ends (X_l01_NumCounts_0_0 E n n0 x43 x8 x38 x7 x0 x6 x0_1 x1 x2 y) Q) : Ends (X_l01_NumCounts_0 E n n0 0 ⟨[(43, x43), (8, x8), (38, x38), (7, x7), (0, x0), (6, x6), (0, x0_1), (1, x1), (2, x2)], y⟩) Q := by
  rw [show X_l01_NumCounts_0 E n n0 0 ⟨[(43, x43), (8, x8), (38, x38), (7, x7), (0, x0), (6, x6), (0, x0_1), (1, x1), (2, x2)], y⟩ = X_l01_NumCounts_0_0 E n n0 x43 x8 x38 x7 x0 x6 x0_1 x1 x2 y by kernel_rfl]
  exact h
noncomputable def F_l01_NumCounts (E : FnA) (n n0 : Nat) (a0 a1 a2 : AV) (bx : Bx) : Option (Ex × S) :=
  (pv bx (lenA Try.prog 22 a0)).bind fun r1 =>
  (pv r1.2 (minL false r1.1 [(.v (Go.Value.int Go.IntKind.i64 300))])).bind fun r2 =>
  (pv r2.2 (sliceA Try.prog r2.2 22 a0 none (some r2.1) none)).bind fun r3 =>
  (callA E md0 r3.2 10 [r3.1]).bind fun r4 =>
  (callA E md0 r4.2 17 [r4.1, a1, a2]).bind fun r5 =>
  (callA E md0 r5.2 18 [r3.1, a1, a2]).bind fun r6 =>
  (pv r6.2 (binA Try.prog .neq 3 r5.1 r6.1)).bind fun r7 =>
  (gsel false r7.2 (some (r3.1, r7.2)) r7.1).bind fun r8 =>
  (gsel false r8.2 (callA E md0 r8.2 10 [r8.1]) r7.1).bind fun r9 =>
  (gsel false r9.2 (some (a2, r9.2)) r7.1).bind fun r10 =>
  (gsel false r10.2 (callA E md0 r10.2 15 [r9.1, r10.1]) r7.1).bind fun r11 =>
  (gsel false r11.2 (some (r3.1, r11.2)) r7.1).bind fun r12 =>
  (gsel false r12.2 (some (a2, r12.2)) r7.1).bind fun r13 =>
  (gsel false r13.2 (callA E md0 r13.2 16 [r12.1, r13.1]) r7.1).bind fun r14 =>
  (gsel false r14.2 (pv r14.2 (binA Try.prog .neq 3 r11.1 r14.1)) r7.1).bind fun r15 =>
  (pv r15.2 (pickA r7.1 (.v (Go.Value.bool true)) r15.1)).bind fun r16 =>
  condA r16.1 (some (.ret, ⟨[(6, (.v (Go.Value.bool false))), (38, r16.1), (7, r5.1), (0, r3.1), (6, (.v (Go.Value.bool false))), (0, a0), (1, a1), (2, a2)], r16.2⟩)) ((pv r16.2 (minL true a1 [(.v (Go.Value.int Go.IntKind.i64 0))])).bind fun r17 =>
  exitA (iter ⟨[(8, r17.1), (38, r16.1), (7, r5.1), (0, r3.1), (6, (.v (Go.Value.bool false))), (0, a0), (1, a1), (2, a2)], r17.2⟩ (L_l01_NumCounts_0 E n n0) n ⟨[(8, r17.1), (38, r16.1), (7, r5.1), (0, r3.1), (6, (.v (Go.Value.bool false))), (0, a0), (1, a1), (2, a2)], r17.2⟩) (K_l01_NumCounts_0 E n n0) (X_l01_NumCounts_0 E n n0))
theorem c_l01_NumCounts_eq : Try.f5.body = some c_l01_NumCounts := by kernel_rfl
theorem d_l01_NumCounts : drawsOk Try.prog md0 c_l01_NumCounts = true := by kernel_rfl
theorem F_l01_NumCounts_eq (E : FnA) (n n0 : Nat) (a0 a1 a2 : AV) (bx : Bx) : evK Try.prog md0 E 74 kp_l01_NumCounts n n0 c_l01_NumCounts ⟨[(0, a0), (1, a1), (2, a2)], bx⟩ (fun s => some (.normal, s)) (fun i s => some (.exit i, s)) = F_l01_NumCounts E n n0 a0 a1 a2 bx := by kernel_rfl

theorem E_l01_NumCounts (n : Nat) (a0 a1 a2 : AV) (bx : Bx) : evFn cx0 ext0 (n + 1) 5 [a0, a1, a2] bx = fin Try.prog [.tmp 6] (F_l01_NumCounts (evFn cx0 ext0 n) n bx.length a0 a1 a2 bx) := by
  rw [evFn_eq2 (cx := cx0) (c := c_l01_NumCounts) rfl Try.func5 c_l01_NumCounts_eq (of_decide_eq_true (by kernel_rfl)) d_l01_NumCounts (of_decide_eq_true (by kernel_rfl))]
  exact congrArg (fin Try.prog [.tmp 6]) (F_l01_NumCounts_eq (evFn cx0 ext0 n) n bx.length a0 a1 a2 bx)

/-- scupper/scupperlaw01.NumPuts -/
def kp_l01_NumPuts : Option (List Nat) := some [0, 1, 4, 5, 6]
noncomputable def c_l01_NumPuts : Code := Try.f6.body.getD .skip
noncomputable def F_l01_NumPuts (E : FnA) (_n _n0 : Nat) (a0 a1 : AV) (bx : Bx) : Option (Ex × S) :=
  (callA E md0 bx 20 [a0]).bind fun r1 =>
  (callA E md0 r1.2 21 [a1]).bind fun r2 =>
  (allocA Try.prog r2.2 37).bind fun r3 =>
  (allocA Try.prog r3.2 39).bind fun r4 =>
  (stA Try.prog 37 r4.2 r3.1 r1.1).bind fun r5 =>
  (stA Try.prog 39 r5.2 r4.1 r2.1).bind fun r6 =>
  (pv r6.2 (sliceA Try.prog r6.2 37 r3.1 none none none)).bind fun r7 =>
  (callA E md0 r7.2 22 [a0]).bind fun r8 =>
  (callA E md0 r8.2 14 [r7.1, r8.1]).bind fun r9 =>
  (gsel true r9.2 (pv r9.2 (sliceA Try.prog r9.2 39 r4.1 none none none)) r9.1).bind fun r10 =>
  (gsel true r10.2 (some (a1, r10.2)) r9.1).bind fun r11 =>
  (gsel true r11.2 (callA E md0 r11.2 23 [r11.1]) r9.1).bind fun r12 =>
  (gsel true r12.2 (callA E md0 r12.2 14 [r10.1, r12.1]) r9.1).bind fun r13 =>
  (pv r13.2 (pickA r9.1 r13.1 (.v (Go.Value.bool false)))).bind fun r14 =>
  (gsel true r14.2 (callA E md0 r14.2 19 []) r14.1).bind fun r15 =>
  (pv r15.2 (pickA r14.1 r15.1 (.v (Go.Value.bool false)))).bind fun r16 =>
  some (.ret, ⟨[(4, r16.1), (6, r4.1), (5, r3.1), (4, (.v (Go.Value.bool false))), (0, a0), (1, a1)], r16.2⟩)
theorem c_l01_NumPuts_eq : Try.f6.body = some c_l01_NumPuts := by kernel_rfl
theorem d_l01_NumPuts : drawsOk Try.prog md0 c_l01_NumPuts = true := by kernel_rfl
theorem F_l01_NumPuts_eq (E : FnA) (n n0 : Nat) (a0 a1 : AV) (bx : Bx) : evK Try.prog md0 E 24 kp_l01_NumPuts n n0 c_l01_NumPuts ⟨[(0, a0), (1, a1)], bx⟩ (fun s => some (.normal, s)) (fun i s => some (.exit i, s)) = F_l01_NumPuts E n n0 a0 a1 bx := by kernel_rfl

theorem E_l01_NumPuts (n : Nat) (a0 a1 : AV) (bx : Bx) : evFn cx0 ext0 (n + 1) 6 [a0, a1] bx = fin Try.prog [.tmp 4] (F_l01_NumPuts (evFn cx0 ext0 n) n bx.length a0 a1 bx) := by
  rw [evFn_eq2 (cx := cx0) (c := c_l01_NumPuts) rfl Try.func6 c_l01_NumPuts_eq (of_decide_eq_true (by kernel_rfl)) d_l01_NumPuts (of_decide_eq_true (by kernel_rfl))]
  exact congrArg (fin Try.prog [.tmp 4]) (F_l01_NumPuts_eq (evFn cx0 ext0 n) n bx.length a0 a1 bx)

/-- scupper/scupperlaw01.NumGets -/
def kp_l01_NumGets : Option (List Nat) := some [0, 1, 2, 6, 7, 8, 9, 10, 11, 12, 13, 14, 15, 16]
noncomputable def c_l01_NumGets : Code := Try.f7.body.getD .skip
noncomputable def F_l01_NumGets (E : FnA) (_n _n0 : Nat) (a0 a1 a2 : AV) (bx : Bx) : Option (Ex × S) :=
  (pv bx (lenA Try.prog 22 a0)).bind fun r1 =>
  (pv r1.2 (minL false r1.1 [(.v (Go.Value.int Go.IntKind.i64 300))])).bind fun r2 =>
  (pv r2.2 (sliceA Try.prog r2.2 22 a0 none (some r2.1) none)).bind fun r3 =>
  (callA E md0 r3.2 10 [r3.1]).bind fun r4 =>
  (callA E md0 r4.2 24 [r4.1, a1]).bind fun r5 =>
  (pv r5.2 (tupA r5.1 0)).bind fun r6 =>
  (pv r6.2 (tupA r5.1 1)).bind fun r7 =>
  (callA E md0 r7.2 25 [r3.1, a1]).bind fun r8 =>
  (pv r8.2 (tupA r8.1 0)).bind fun r9 =>
  (pv r9.2 (tupA r8.1 1)).bind fun r10 =>
  (callA E md0 r10.2 10 [r3.1]).bind fun r11 =>
  (callA E md0 r11.2 26 [r11.1, a1]).bind fun r12 =>
  (pv r12.2 (tupA r12.1 0)).bind fun r13 =>
  (pv r13.2 (tupA r12.1 1)).bind fun r14 =>
  (callA E md0 r14.2 27 [r3.1, a1]).bind fun r15 =>
  (pv r15.2 (tupA r15.1 0)).bind fun r16 =>
  (pv r16.2 (tupA r15.1 1)).bind fun r17 =>
  (convA Try.prog r17.2 36 35 a2).bind fun r18 =>
  (callA E md0 r18.2 20 [r18.1]).bind fun r19 =>
  (callA E md0 r19.2 21 [a2]).bind fun r20 =>
  (allocA Try.prog r20.2 37).bind fun r21 =>
  (allocA Try.prog r21.2 39).bind fun r22 =>
  (stA Try.prog 37 r22.2 r21.1 r19.1).bind fun r23 =>
  (stA Try.prog 39 r23.2 r22.1 r20.1).bind fun r24 =>
  (pv r24.2 (binA Try.prog .eql 35 r6.1 r9.1)).bind fun r25 =>
  (gsel true r25.2 (some (r7.1, r25.2)) r25.1).bind fun r26 =>
  (gsel true r26.2 (some (r10.1, r26.2)) r25.1).bind fun r27 =>
  (gsel true r27.2 (pv r27.2 (binA Try.prog .eql 23 r26.1 r27.1)) r25.1).bind fun r28 =>
  (pv r28.2 (pickA r25.1 r28.1 (.v (Go.Value.bool false)))).bind fun r29 =>
  (gsel true r29.2 (some (r13.1, r29.2)) r29.1).bind fun r30 =>
  (gsel true r30.2 (some (r16.1, r30.2)) r29.1).bind fun r31 =>
  (gsel true r31.2 (pv r31.2 (binA Try.prog .eql 36 r30.1 r31.1)) r29.1).bind fun r32 =>
  (pv r32.2 (pickA r29.1 r32.1 (.v (Go.Value.bool false)))).bind fun r33 =>
  (gsel true r33.2 (some (r14.1, r33.2)) r33.1).bind fun r34 =>
  (gsel true r34.2 (some (r17.1, r34.2)) r33.1).bind fun r35 =>
  (gsel true r35.2 (pv r35.2 (binA Try.prog .eql 23 r34.1 r35.1)) r33.1).bind fun r36 =>
  (pv r36.2 (pickA r33.1 r36.1 (.v (Go.Value.bool false)))).bind fun r37 =>
  (gsel true r37.2 (pv r37.2 (sliceA Try.prog r37.2 37 r21.1 none none none)) r37.1).bind fun r38 =>
  (gsel true r38.2 (some (a2, r38.2)) r37.1).bind fun r39 =>
  (gsel true r39.2 (convA Try.prog r39.2 36 35 r39.1) r37.1).bind fun r40 =>
  (gsel true r40.2 (callA E md0 r40.2 22 [r40.1]) r37.1).bind fun r41 =>
  (gsel true r41.2 (callA E md0 r41.2 14 [r38.1, r41.1]) r37.1).bind fun r42 =>
  (pv r42.2 (pickA r37.1 r42.1 (.v (Go.Value.bool false)))).bind fun r43 =>
  (gsel true r43.2 (pv r43.2 (sliceA Try.prog r43.2 39 r22.1 none none none)) r43.1).bind fun r44 =>
  (gsel true r44.2 (some (a2, r44.2)) r43.1).bind fun r45 =>
  (gsel true r45.2 (callA E md0 r45.2 23 [r45.1]) r43.1).bind fun r46 =>
  (gsel true r46.2 (callA E md0 r46.2 14 [r44.1, r46.1]) r43.1).bind fun r47 =>
  (pv r47.2 (pickA r43.1 r47.1 (.v (Go.Value.bool false)))).bind fun r48 =>
  (gsel true r48.2 (callA E md0 r48.2 19 []) r48.1).bind fun r49 =>
  (pv r49.2 (pickA r48.1 r49.1 (.v (Go.Value.bool false)))).bind fun r50 =>
  some (.ret, ⟨[(6, r50.1), (16, r22.1), (15, r21.1), (14, r17.1), (13, r16.1), (12, r14.1), (11, r13.1), (10, r10.1), (9, r9.1), (8, r7.1), (7, r6.1), (0, r3.1), (6, (.v (Go.Value.bool false))), (0, a0), (1, a1), (2, a2)], r50.2⟩)
theorem c_l01_NumGets_eq : Try.f7.body = some c_l01_NumGets := by kernel_rfl
theorem d_l01_NumGets : drawsOk Try.prog md0 c_l01_NumGets = true := by kernel_rfl
theorem F_l01_NumGets_eq (E : FnA) (n n0 : Nat) (a0 a1 a2 : AV) (bx : Bx) : evK Try.prog md0 E 87 kp_l01_NumGets n n0 c_l01_NumGets ⟨[(0, a0), (1, a1), (2, a2)], bx⟩ (fun s => some (.normal, s)) (fun i s => some (.exit i, s)) = F_l01_NumGets E n n0 a0 a1 a2 bx := by kernel_rfl

theorem E_l01_NumGets (n : Nat) (a0 a1 a2 : AV) (bx : Bx) : evFn cx0 ext0 (n + 1) 7 [a0, a1, a2] bx = fin Try.prog [.tmp 6] (F_l01_NumGets (evFn cx0 ext0 n) n bx.length a0 a1 a2 bx) := by
  rw [evFn_eq2 (cx := cx0) (c := c_l01_NumGets) rfl Try.func7 c_l01_NumGets_eq (of_decide_eq_true (by kernel_rfl)) d_l01_NumGets (of_decide_eq_true (by kernel_rfl))]
  exact congrArg (fin Try.prog [.tmp 6]) (F_l01_NumGets_eq (evFn cx0 ext0 n) n bx.length a0 a1 a2 bx)

/-- scupper/scupperlaw01.NumBack -/
def kp_l01_NumBack : Option (List Nat) := some [0, 2, 3, 4, 5, 6, 7, 8, 10]
noncomputable def c_l01_NumBack : Code := Try.f8.body.getD .skip
noncomputable def F_l01_NumBack (E : FnA) (_n _n0 : Nat) (a0 : AV) (bx : Bx) : Option (Ex × S) :=
  (callA E md0 bx 19 []).bind fun r1 =>
  (pv r1.2 (unA .not r1.1)).bind fun r2 =>
  condA r2.1 (some (.ret, ⟨[(2, (.v (Go.Value.bool false))), (10, r2.1), (2, (.v (Go.Value.bool false))), (0, a0)], r2.2⟩)) ((convA Try.prog r2.2 36 35 a0).bind fun r3 =>
  (callA E md0 r3.2 20 [r3.1]).bind fun r4 =>
  (callA E md0 r4.2 21 [a0]).bind fun r5 =>
  (allocA Try.prog r5.2 37).bind fun r6 =>
  (allocA Try.prog r6.2 39).bind fun r7 =>
  (stA Try.prog 37 r7.2 r6.1 r4.1).bind fun r8 =>
  (stA Try.prog 39 r8.2 r7.1 r5.1).bind fun r9 =>
  (pv r9.2 (sliceA Try.prog r9.2 37 r6.1 none none none)).bind fun r10 =>
  (callA E md0 r10.2 24 [r10.1, (.v (Go.Value.int Go.IntKind.i64 0))]).bind fun r11 =>
  (pv r11.2 (tupA r11.1 0)).bind fun r12 =>
  (pv r12.2 (tupA r11.1 1)).bind fun r13 =>
  (pv r13.2 (sliceA Try.prog r13.2 39 r7.1 none none none)).bind fun r14 =>
  (callA E md0 r14.2 26 [r14.1, (.v (Go.Value.int Go.IntKind.i64 0))]).bind fun r15 =>
  (pv r15.2 (tupA r15.1 0)).bind fun r16 =>
  (pv r16.2 (tupA r15.1 1)).bind fun r17 =>
  (convA Try.prog r17.2 36 35 a0).bind fun r18 =>
  (pv r18.2 (binA Try.prog .eql 35 r12.1 r18.1)).bind fun r19 =>
  (gsel true r19.2 (some (r16.1, r19.2)) r19.1).bind fun r20 =>
  (gsel true r20.2 (some (a0, r20.2)) r19.1).bind fun r21 =>
  (gsel true r21.2 (pv r21.2 (binA Try.prog .eql 36 r20.1 r21.1)) r19.1).bind fun r22 =>
  (pv r22.2 (pickA r19.1 r22.1 (.v (Go.Value.bool false)))).bind fun r23 =>
  (gsel true r23.2 (some (r13.1, r23.2)) r23.1).bind fun r24 =>
  (gsel true r24.2 (pv r24.2 (binA Try.prog .eql 23 r24.1 (.v (Go.Value.int Go.IntKind.i64 0)))) r23.1).bind fun r25 =>
  (pv r25.2 (pickA r23.1 r25.1 (.v (Go.Value.bool false)))).bind fun r26 =>
  (gsel true r26.2 (some (r17.1, r26.2)) r26.1).bind fun r27 =>
  (gsel true r27.2 (pv r27.2 (binA Try.prog .eql 23 r27.1 (.v (Go.Value.int Go.IntKind.i64 0)))) r26.1).bind fun r28 =>
  (pv r28.2 (pickA r26.1 r28.1 (.v (Go.Value.bool false)))).bind fun r29 =>
  some (.ret, ⟨[(2, r29.1), (8, r17.1), (7, r16.1), (6, r13.1), (5, r12.1), (4, r7.1), (3, r6.1), (10, r2.1), (2, (.v (Go.Value.bool false))), (0, a0)], r29.2⟩))
theorem c_l01_NumBack_eq : Try.f8.body = some c_l01_NumBack := by kernel_rfl
theorem d_l01_NumBack : drawsOk Try.prog md0 c_l01_NumBack = true := by kernel_rfl
theorem F_l01_NumBack_eq (E : FnA) (n n0 : Nat) (a0 : AV) (bx : Bx) : evK Try.prog md0 E 43 kp_l01_NumBack n n0 c_l01_NumBack ⟨[(0, a0)], bx⟩ (fun s => some (.normal, s)) (fun i s => some (.exit i, s)) = F_l01_NumBack E n n0 a0 bx := by kernel_rfl

theorem E_l01_NumBack (n : Nat) (a0 : AV) (bx : Bx) : evFn cx0 ext0 (n + 1) 8 [a0] bx = fin Try.prog [.tmp 2] (F_l01_NumBack (evFn cx0 ext0 n) n bx.length a0 bx) := by
  rw [evFn_eq2 (cx := cx0) (c := c_l01_NumBack) rfl Try.func8 c_l01_NumBack_eq (of_decide_eq_true (by kernel_rfl)) d_l01_NumBack (of_decide_eq_true (by kernel_rfl))]
  exact congrArg (fin Try.prog [.tmp 2]) (F_l01_NumBack_eq (evFn cx0 ext0 n) n bx.length a0 bx)

/-- scupper/num.Bit -/
def kp_num_Bit : Option (List Nat) := some [0, 1, 4, 5, 6, 7, 8]
noncomputable def c_num_Bit : Code := Try.f9.body.getD .skip
noncomputable def F_num_Bit (E : FnA) (_n _n0 : Nat) (a0 a1 : AV) (bx : Bx) : Option (Ex × S) :=
  (callA E md0 bx 28 [a0, a1]).bind fun r1 =>
  (pv r1.2 (tupA r1.1 0)).bind fun r2 =>
  (pv r2.2 (tupA r1.1 1)).bind fun r3 =>
  (pv r3.2 (tupA r1.1 2)).bind fun r4 =>
  (pv r4.2 (binA Try.prog .eql 23 r4.1 (.v (Go.Value.int Go.IntKind.i64 0)))).bind fun r5 =>
  (gsel true r5.2 (some (a0, r5.2)) r5.1).bind fun r6 =>
  (gsel true r6.2 (some (r2.1, r6.2)) r5.1).bind fun r7 =>
  (gsel true r7.2 (pv r7.2 (indexAddrA Try.prog 22 r6.1 r7.1)) r5.1).bind fun r8 =>
  (gsel true r8.2 (pv r8.2 (loadA Try.prog 5 r8.2 r8.1)) r5.1).bind fun r9 =>
  (gsel true r9.2 (some (r3.1, r9.2)) r5.1).bind fun r10 =>
  (gsel true r10.2 (pv r10.2 (binA Try.prog .and 5 r9.1 r10.1)) r5.1).bind fun r11 =>
  (gsel true r11.2 (pv r11.2 (binA Try.prog .neq 5 r11.1 (.v (Go.Value.int Go.IntKind.u8 0)))) r5.1).bind fun r12 =>
  (pv r12.2 (pickA r5.1 r12.1 (.v (Go.Value.bool false)))).bind fun r13 =>
  some (.ret, ⟨[(5, r4.1), (4, r13.1), (8, r4.1), (7, r3.1), (6, r2.1), (5, (.v (Go.Value.int Go.IntKind.i64 0))), (4, (.v (Go.Value.bool false))), (0, a0), (1, a1)], r13.2⟩)
theorem c_num_Bit_eq : Try.f9.body = some c_num_Bit := by kernel_rfl
theorem d_num_Bit : drawsOk Try.prog md0 c_num_Bit = true := by kernel_rfl
theorem F_num_Bit_eq (E : FnA) (n n0 : Nat) (a0 a1 : AV) (bx : Bx) : evK Try.prog md0 E 28 kp_num_Bit n n0 c_num_Bit ⟨[(0, a0), (1, a1)], bx⟩ (fun s => some (.normal, s)) (fun i s => some (.exit i, s)) = F_num_Bit E n n0 a0 a1 bx := by kernel_rfl

theorem E_num_Bit (n : Nat) (a0 a1 : AV) (bx : Bx) : evFn cx0 ext0 (n + 1) 9 [a0, a1] bx = fin Try.prog [.tmp 4, .tmp 5] (F_num_Bit (evFn cx0 ext0 n) n bx.length a0 a1 bx) := by
  rw [evFn_eq2 (cx := cx0) (c := c_num_Bit) rfl Try.func9 c_num_Bit_eq (of_decide_eq_true (by kernel_rfl)) d_num_Bit (of_decide_eq_true (by kernel_rfl))]
  exact congrArg (fin Try.prog [.tmp 4, .tmp 5]) (F_num_Bit_eq (evFn cx0 ext0 n) n bx.length a0 a1 bx)

/-- scupper/scupperbase.Bytes -/
def kp_base_Bytes : Option (List Nat) := some [0, 2]
noncomputable def c_base_Bytes : Code := Try.f10.body.getD .skip
noncomputable def F_base_Bytes (_E : FnA) (_n n0 : Nat) (a0 : AV) (bx : Bx) : Option (Ex × S) :=
  (some (AV.bsl (List.length bx) 0 0 0, bx ++ [[]])).bind fun r1 =>
  (buildSliceA Try.prog r1.2 22 0 []).bind fun r2 =>
  (appA Try.prog n0 r2.2 22 r2.1 a0).bind fun r3 =>
  some (.ret, ⟨[(2, r3.1), (2, (r3.2.1 r1.1)), (0, (r3.2.1 a0))], r3.2.2⟩)
theorem c_base_Bytes_eq : Try.f10.body = some c_base_Bytes := by kernel_rfl
theorem d_base_Bytes : drawsOk Try.prog md0 c_base_Bytes = true := by kernel_rfl
theorem F_base_Bytes_eq (E : FnA) (n n0 : Nat) (a0 : AV) (bx : Bx) : evK Try.prog md0 E 6 kp_base_Bytes n n0 c_base_Bytes ⟨[(0, a0)], bx⟩ (fun s => some (.normal, s)) (fun i s => some (.exit i, s)) = F_base_Bytes E n n0 a0 bx := by kernel_rfl

theorem E_base_Bytes (n : Nat) (a0 : AV) (bx : Bx) : evFn cx0 ext0 (n + 1) 10 [a0] bx = fin Try.prog [.tmp 2] (F_base_Bytes (evFn cx0 ext0 n) n bx.length a0 bx) := by
  rw [evFn_eq2 (cx := cx0) (c := c_base_Bytes) rfl Try.func10 c_base_Bytes_eq (of_decide_eq_true (by kernel_rfl)) d_base_Bytes (of_decide_eq_true (by kernel_rfl))]
  exact congrArg (fin Try.prog [.tmp 2]) (F_base_Bytes_eq (evFn cx0 ext0 n) n bx.length a0 bx)

/-- scupper/scupperref01.Bit -/
def kp_r01_Bit : Option (List Nat) := some [0, 1, 4, 5, 14]
noncomputable def c_r01_Bit : Code := Try.f11.body.getD .skip
noncomputable def F_r01_Bit (E : FnA) (_n _n0 : Nat) (a0 a1 : AV) (bx : Bx) : Option (Ex × S) :=
  (pv bx (binA Try.prog .lss 3 a1 (.v (Go.Value.int Go.IntKind.i64 0)))).bind fun r1 =>
  (gsel false r1.2 (some (a1, r1.2)) r1.1).bind fun r2 =>
  (gsel false r2.2 (pv r2.2 (binA Try.prog .quo 3 r2.1 (.v (Go.Value.int Go.IntKind.i64 8)))) r1.1).bind fun r3 =>
  (gsel false r3.2 (some (a0, r3.2)) r1.1).bind fun r4 =>
  (gsel false r4.2 (pv r4.2 (lenA Try.prog 22 r4.1)) r1.1).bind fun r5 =>
  (gsel false r5.2 (pv r5.2 (binA Try.prog .geq 3 r3.1 r5.1)) r1.1).bind fun r6 =>
  (pv r6.2 (pickA r1.1 (.v (Go.Value.bool true)) r6.1)).bind fun r7 =>
  condA r7.1 (some (.ret, ⟨[(5, (.v (Go.Value.int Go.IntKind.i64 2))), (4, (.v (Go.Value.bool false))), (14, r7.1), (5, (.v (Go.Value.int Go.IntKind.i64 0))), (4, (.v (Go.Value.bool false))), (0, a0), (1, a1)], r7.2⟩)) ((pv r7.2 (binA Try.prog .quo 3 a1 (.v (Go.Value.int Go.IntKind.i64 8)))).bind fun r8 =>
  (pv r8.2 (indexAddrA Try.prog 22 a0 r8.1)).bind fun r9 =>
  (pv r9.2 (loadA Try.prog 5 r9.2 r9.1)).bind fun r10 =>
  (convA Try.prog r10.2 5 3 r10.1).bind fun r11 =>
  (pv r11.2 (binA Try.prog .rem 3 a1 (.v (Go.Value.int Go.IntKind.i64 8)))).bind fun r12 =>
  (callA E md0 r12.2 29 [r12.1]).bind fun r13 =>
  (pv r13.2 (binA Try.prog .quo 3 r11.1 r13.1)).bind fun r14 =>
  (pv r14.2 (binA Try.prog .rem 3 r14.1 (.v (Go.Value.int Go.IntKind.i64 2)))).bind fun r15 =>
  (pv r15.2 (binA Try.prog .eql 3 r15.1 (.v (Go.Value.int Go.IntKind.i64 1)))).bind fun r16 =>
  some (.ret, ⟨[(5, (.v (Go.Value.int Go.IntKind.i64 0))), (4, r16.1), (14, r7.1), (5, (.v (Go.Value.int Go.IntKind.i64 0))), (4, (.v (Go.Value.bool false))), (0, a0), (1, a1)], r16.2⟩))
theorem c_r01_Bit_eq : Try.f11.body = some c_r01_Bit := by kernel_rfl
theorem d_r01_Bit : drawsOk Try.prog md0 c_r01_Bit = true := by kernel_rfl
theorem F_r01_Bit_eq (E : FnA) (n n0 : Nat) (a0 a1 : AV) (bx : Bx) : evK Try.prog md0 E 27 kp_r01_Bit n n0 c_r01_Bit ⟨[(0, a0), (1, a1)], bx⟩ (fun s => some (.normal, s)) (fun i s => some (.exit i, s)) = F_r01_Bit E n n0 a0 a1 bx := by kernel_rfl

theorem E_r01_Bit (n : Nat) (a0 a1 : AV) (bx : Bx) : evFn cx0 ext0 (n + 1) 11 [a0, a1] bx = fin Try.prog [.tmp 4, .tmp 5] (F_r01_Bit (evFn cx0 ext0 n) n bx.length a0 a1 bx) := by
  rw [evFn_eq2 (cx := cx0) (c := c_r01_Bit) rfl Try.func11 c_r01_Bit_eq (of_decide_eq_true (by kernel_rfl)) d_r01_Bit (of_decide_eq_true (by kernel_rfl))]
  exact congrArg (fin Try.prog [.tmp 4, .tmp 5]) (F_r01_Bit_eq (evFn cx0 ext0 n) n bx.length a0 a1 bx)

/-- scupper/num.With -/
def kp_num_With : Option (List Nat) := some [0, 1, 2, 6, 7, 8, 9, 10, 11, 20, 31]
noncomputable def c_num_With : Code := Try.f12.body.getD .skip
noncomputable def F_num_With (E : FnA) (_n _n0 : Nat) (a0 a1 a2 : AV) (bx : Bx) : Option (Ex × S) :=
  (some (AV.bsl (List.length bx) 0 0 0, bx ++ [[]])).bind fun r1 =>
  (callA E md_num_With r1.2 28 [a0, a1]).bind fun r2 =>
  (pv r2.2 (tupA r2.1 0)).bind fun r3 =>
  (pv r3.2 (tupA r2.1 1)).bind fun r4 =>
  (pv r4.2 (tupA r2.1 2)).bind fun r5 =>
  (pv r5.2 (binA Try.prog .neq 23 r5.1 (.v (Go.Value.int Go.IntKind.i64 0)))).bind fun r6 =>
  condA r6.1 ((some (AV.bsl (List.length r6.2) 0 0 0, r6.2 ++ [[]])).bind fun r7 =>
  some (.ret, ⟨[(7, r5.1), (6, r7.1), (20, r6.1), (10, r5.1), (9, r4.1), (8, r3.1), (7, (.v (Go.Value.int Go.IntKind.i64 0))), (6, r1.1), (0, a0), (1, a1), (2, a2)], r7.2⟩)) ((callA E md_num_With r6.2 30 [a0]).bind fun r8 =>
  (pv r8.2 (indexAddrA Try.prog 22 r8.1 r3.1)).bind fun r9 =>
  (pv r9.2 (loadA Try.prog 5 r9.2 r9.1)).bind fun r10 =>
  (pv r10.2 (binA Try.prog .andNot 5 r10.1 r4.1)).bind fun r11 =>
  (pv r11.2 (indexAddrA Try.prog 22 r8.1 r3.1)).bind fun r12 =>
  (stA Try.prog 5 r12.2 r12.1 r11.1).bind fun r13 =>
  condA a2 ((pv r13.2 (indexAddrA Try.prog 22 r8.1 r3.1)).bind fun r14 =>
  (pv r14.2 (loadA Try.prog 5 r14.2 r14.1)).bind fun r15 =>
  (pv r15.2 (binA Try.prog .or 5 r15.1 r4.1)).bind fun r16 =>
  (pv r16.2 (indexAddrA Try.prog 22 r8.1 r3.1)).bind fun r17 =>
  (stA Try.prog 5 r17.2 r17.1 r16.1).bind fun r18 =>
  some (.ret, ⟨[(7, r5.1), (6, r8.1), (31, a2), (11, r8.1), (20, r6.1), (10, r5.1), (9, r4.1), (8, r3.1), (7, (.v (Go.Value.int Go.IntKind.i64 0))), (6, r1.1), (0, a0), (1, a1), (2, a2)], r18.2⟩)) (some (.ret, ⟨[(7, r5.1), (6, r8.1), (31, a2), (11, r8.1), (20, r6.1), (10, r5.1), (9, r4.1), (8, r3.1), (7, (.v (Go.Value.int Go.IntKind.i64 0))), (6, r1.1), (0, a0), (1, a1), (2, a2)], r13.2⟩)))
theorem c_num_With_eq : Try.f12.body = some c_num_With := by kernel_rfl
theorem d_num_With : drawsOk Try.prog md_num_With c_num_With = true := by kernel_rfl
theorem F_num_With_eq (E : FnA) (n n0 : Nat) (a0 a1 a2 : AV) (bx : Bx) : evK Try.prog md_num_With E 41 kp_num_With n n0 c_num_With ⟨[(0, a0), (1, a1), (2, a2)], bx⟩ (fun s => some (.normal, s)) (fun i s => some (.exit i, s)) = F_num_With E n n0 a0 a1 a2 bx := by kernel_rfl

theorem E_num_With (n : Nat) (a0 a1 a2 : AV) (bx : Bx) : evFn cx0 ext0 (n + 1) 12 [a0, a1, a2] bx = fin Try.prog [.tmp 6, .tmp 7] (F_num_With (evFn cx0 ext0 n) n bx.length a0 a1 a2 bx) := by
  rw [evFn_eq2 (cx := cx0) (c := c_num_With) rfl Try.func12 c_num_With_eq (of_decide_eq_true (by kernel_rfl)) d_num_With (of_decide_eq_true (by kernel_rfl))]
  exact congrArg (fin Try.prog [.tmp 6, .tmp 7]) (F_num_With_eq (evFn cx0 ext0 n) n bx.length a0 a1 a2 bx)

/-- scupper/scupperref01.With -/
def kp_r01_With : Option (List Nat) := some [0, 1, 2, 6, 7, 8, 9, 10, 18, 27, 43]
noncomputable def c_r01_With : Code := Try.f13.body.getD .skip
noncomputable def F_r01_With (E : FnA) (_n n0 : Nat) (a0 a1 a2 : AV) (bx : Bx) : Option (Ex × S) :=
  (some (AV.bsl (List.length bx) 0 0 0, bx ++ [[]])).bind fun r1 =>
  (callA E md0 r1.2 11 [a0, a1]).bind fun r2 =>
  (pv r2.2 (tupA r2.1 0)).bind fun r3 =>
  (pv r3.2 (tupA r2.1 1)).bind fun r4 =>
  (pv r4.2 (binA Try.prog .neq 23 r4.1 (.v (Go.Value.int Go.IntKind.i64 0)))).bind fun r5 =>
  condA r5.1 ((some (AV.bsl (List.length r5.2) 0 0 0, r5.2 ++ [[]])).bind fun r6 =>
  some (.ret, ⟨[(7, r4.1), (6, r6.1), (18, r5.1), (9, r4.1), (8, r3.1), (7, (.v (Go.Value.int Go.IntKind.i64 0))), (6, r1.1), (0, a0), (1, a1), (2, a2)], r6.2⟩)) ((buildSliceA Try.prog r5.2 22 0 []).bind fun r7 =>
  (appA Try.prog n0 r7.2 22 r7.1 a0).bind fun r8 =>
  (gsel true r8.2.2 (some ((r8.2.1 r3.1), r8.2.2)) (r8.2.1 a2)).bind fun r9 =>
  (gsel true r9.2 (pv r9.2 (unA .not r9.1)) (r8.2.1 a2)).bind fun r10 =>
  (pv r10.2 (pickA (r8.2.1 a2) r10.1 (.v (Go.Value.bool false)))).bind fun r11 =>
  condA r11.1 ((pv r11.2 (binA Try.prog .quo 3 (r8.2.1 a1) (.v (Go.Value.int Go.IntKind.i64 8)))).bind fun r12 =>
  (pv r12.2 (indexAddrA Try.prog 22 r8.1 r12.1)).bind fun r13 =>
  (pv r13.2 (loadA Try.prog 5 r13.2 r13.1)).bind fun r14 =>
  (pv r14.2 (binA Try.prog .rem 3 (r8.2.1 a1) (.v (Go.Value.int Go.IntKind.i64 8)))).bind fun r15 =>
  (callA E md0 r15.2 29 [r15.1]).bind fun r16 =>
  (convA Try.prog r16.2 3 5 r16.1).bind fun r17 =>
  (pv r17.2 (binA Try.prog .add 5 r14.1 r17.1)).bind fun r18 =>
  (pv r18.2 (indexAddrA Try.prog 22 r8.1 r12.1)).bind fun r19 =>
  (stA Try.prog 5 r19.2 r19.1 r18.1).bind fun r20 =>
  (pv r20.2 (unA .not (r8.2.1 a2))).bind fun r21 =>
  (gsel true r21.2 (some ((r8.2.1 r3.1), r21.2)) r21.1).bind fun r22 =>
  (pv r22.2 (pickA r21.1 r22.1 (.v (Go.Value.bool false)))).bind fun r23 =>
  condA r23.1 ((pv r23.2 (binA Try.prog .quo 3 (r8.2.1 a1) (.v (Go.Value.int Go.IntKind.i64 8)))).bind fun r24 =>
  (pv r24.2 (indexAddrA Try.prog 22 r8.1 r24.1)).bind fun r25 =>
  (pv r25.2 (loadA Try.prog 5 r25.2 r25.1)).bind fun r26 =>
  (pv r26.2 (binA Try.prog .rem 3 (r8.2.1 a1) (.v (Go.Value.int Go.IntKind.i64 8)))).bind fun r27 =>
  (callA E md0 r27.2 29 [r27.1]).bind fun r28 =>
  (convA Try.prog r28.2 3 5 r28.1).bind fun r29 =>
  (pv r29.2 (binA Try.prog .sub 5 r26.1 r29.1)).bind fun r30 =>
  (pv r30.2 (indexAddrA Try.prog 22 r8.1 r24.1)).bind fun r31 =>
  (stA Try.prog 5 r31.2 r31.1 r30.1).bind fun r32 =>
  some (.ret, ⟨[(7, (.v (Go.Value.int Go.IntKind.i64 0))), (6, r8.1), (43, r23.1), (27, r11.1), (10, r8.1), (18, (r8.2.1 r5.1)), (9, (r8.2.1 r4.1)), (8, (r8.2.1 r3.1)), (7, (r8.2.1 (.v (Go.Value.int Go.IntKind.i64 0)))), (6, (r8.2.1 r1.1)), (0, (r8.2.1 a0)), (1, (r8.2.1 a1)), (2, (r8.2.1 a2))], r32.2⟩)) (some (.ret, ⟨[(7, (.v (Go.Value.int Go.IntKind.i64 0))), (6, r8.1), (43, r23.1), (27, r11.1), (10, r8.1), (18, (r8.2.1 r5.1)), (9, (r8.2.1 r4.1)), (8, (r8.2.1 r3.1)), (7, (r8.2.1 (.v (Go.Value.int Go.IntKind.i64 0)))), (6, (r8.2.1 r1.1)), (0, (r8.2.1 a0)), (1, (r8.2.1 a1)), (2, (r8.2.1 a2))], r23.2⟩))) ((pv r11.2 (unA .not (r8.2.1 a2))).bind fun r33 =>
  (gsel true r33.2 (some ((r8.2.1 r3.1), r33.2)) r33.1).bind fun r34 =>
  (pv r34.2 (pickA r33.1 r34.1 (.v (Go.Value.bool false)))).bind fun r35 =>
  condA r35.1 ((pv r35.2 (binA Try.prog .quo 3 (r8.2.1 a1) (.v (Go.Value.int Go.IntKind.i64 8)))).bind fun r36 =>
  (pv r36.2 (indexAddrA Try.prog 22 r8.1 r36.1)).bind fun r37 =>
  (pv r37.2 (loadA Try.prog 5 r37.2 r37.1)).bind fun r38 =>
  (pv r38.2 (binA Try.prog .rem 3 (r8.2.1 a1) (.v (Go.Value.int Go.IntKind.i64 8)))).bind fun r39 =>
  (callA E md0 r39.2 29 [r39.1]).bind fun r40 =>
  (convA Try.prog r40.2 3 5 r40.1).bind fun r41 =>
  (pv r41.2 (binA Try.prog .sub 5 r38.1 r41.1)).bind fun r42 =>
  (pv r42.2 (indexAddrA Try.prog 22 r8.1 r36.1)).bind fun r43 =>
  (stA Try.prog 5 r43.2 r43.1 r42.1).bind fun r44 =>
  some (.ret, ⟨[(7, (.v (Go.Value.int Go.IntKind.i64 0))), (6, r8.1), (43, r35.1), (27, r11.1), (10, r8.1), (18, (r8.2.1 r5.1)), (9, (r8.2.1 r4.1)), (8, (r8.2.1 r3.1)), (7, (r8.2.1 (.v (Go.Value.int Go.IntKind.i64 0)))), (6, (r8.2.1 r1.1)), (0, (r8.2.1 a0)), (1, (r8.2.1 a1)), (2, (r8.2.1 a2))], r44.2⟩)) (some (.ret, ⟨[(7, (.v (Go.Value.int Go.IntKind.i64 0))), (6, r8.1), (43, r35.1), (27, r11.1), (10, r8.1), (18, (r8.2.1 r5.1)), (9, (r8.2.1 r4.1)), (8, (r8.2.1 r3.1)), (7, (r8.2.1 (.v (Go.Value.int Go.IntKind.i64 0)))), (6, (r8.2.1 r1.1)), (0, (r8.2.1 a0)), (1, (r8.2.1 a1)), (2, (r8.2.1 a2))], r35.2⟩))))
theorem c_r01_With_eq : Try.f13.body = some c_r01_With := by kernel_rfl
theorem d_r01_With : drawsOk Try.prog md0 c_r01_With = true := by kernel_rfl
theorem F_r01_With_eq (E : FnA) (n n0 : Nat) (a0 a1 a2 : AV) (bx : Bx) : evK Try.prog md0 E 56 kp_r01_With n n0 c_r01_With ⟨[(0, a0), (1, a1), (2, a2)], bx⟩ (fun s => some (.normal, s)) (fun i s => some (.exit i, s)) = F_r01_With E n n0 a0 a1 a2 bx := by kernel_rfl

theorem E_r01_With (n : Nat) (a0 a1 a2 : AV) (bx : Bx) : evFn cx0 ext0 (n + 1) 13 [a0, a1, a2] bx = fin Try.prog [.tmp 6, .tmp 7] (F_r01_With (evFn cx0 ext0 n) n bx.length a0 a1 a2 bx) := by
  rw [evFn_eq2 (cx := cx0) (c := c_r01_With) rfl Try.func13 c_r01_With_eq (of_decide_eq_true (by kernel_rfl)) d_r01_With (of_decide_eq_true (by kernel_rfl))]
  exact congrArg (fin Try.prog [.tmp 6, .tmp 7]) (F_r01_With_eq (evFn cx0 ext0 n) n bx.length a0 a1 a2 bx)

/-- scupper/scupperbase.SameBytes -/
def kp_base_SameBytes : Option (List Nat) := some [0, 1, 4]
noncomputable def c_base_SameBytes : Code := Try.f14.body.getD .skip
noncomputable def F_base_SameBytes (_E : FnA) (_n _n0 : Nat) (a0 a1 : AV) (bx : Bx) : Option (Ex × S) :=
  (convA Try.prog bx 22 9 a0).bind fun r1 =>
  (convA Try.prog r1.2 22 9 a1).bind fun r2 =>
  (pv r2.2 (binA Try.prog .eql 9 r1.1 r2.1)).bind fun r3 =>
  some (.ret, ⟨[(4, r3.1), (4, (.v (Go.Value.bool false))), (0, a0), (1, a1)], r3.2⟩)
theorem c_base_SameBytes_eq : Try.f14.body = some c_base_SameBytes := by kernel_rfl
theorem d_base_SameBytes : drawsOk Try.prog md0 c_base_SameBytes = true := by kernel_rfl
theorem F_base_SameBytes_eq (E : FnA) (n n0 : Nat) (a0 a1 : AV) (bx : Bx) : evK Try.prog md0 E 10 kp_base_SameBytes n n0 c_base_SameBytes ⟨[(0, a0), (1, a1)], bx⟩ (fun s => some (.normal, s)) (fun i s => some (.exit i, s)) = F_base_SameBytes E n n0 a0 a1 bx := by kernel_rfl

theorem E_base_SameBytes (n : Nat) (a0 a1 : AV) (bx : Bx) : evFn cx0 ext0 (n + 1) 14 [a0, a1] bx = fin Try.prog [.tmp 4] (F_base_SameBytes (evFn cx0 ext0 n) n bx.length a0 a1 bx) := by
  rw [evFn_eq2 (cx := cx0) (c := c_base_SameBytes) rfl Try.func14 c_base_SameBytes_eq (of_decide_eq_true (by kernel_rfl)) d_base_SameBytes (of_decide_eq_true (by kernel_rfl))]
  exact congrArg (fin Try.prog [.tmp 4]) (F_base_SameBytes_eq (evFn cx0 ext0 n) n bx.length a0 a1 bx)

/-- scupper/num.Count -/
def kp_num_Count : Option (List Nat) := some [0, 1, 4, 5, 6, 9, 10, 11]
noncomputable def c_num_Count : Code := Try.f15.body.getD .skip
noncomputable def L_num_Count_0 (_E : FnA) (_n _n0 : Nat) (s : S) : Option (Ex × S) :=
  (pv s.bx (binA Try.prog .lss 3 (get s.env 10) (get s.env 9))).bind fun r12 =>
  condA r12.1 ((pv r12.2 (binA Try.prog .quo 3 (get (prune kp_num_Count s.env) 10) (.v (Go.Value.int Go.IntKind.i64 8)))).bind fun r13 =>
  (pv r13.2 (indexAddrA Try.prog 22 (get (prune kp_num_Count (prune kp_num_Count s.env)) 0) r13.1)).bind fun r14 =>
  (pv r14.2 (loadA Try.prog 5 r14.2 r14.1)).bind fun r15 =>
  (pv r15.2 (binA Try.prog .rem 3 (get (prune kp_num_Count s.env) 10) (.v (Go.Value.int Go.IntKind.i64 8)))).bind fun r16 =>
  (pv r16.2 (binA Try.prog .shr 5 r15.1 r16.1)).bind fun r17 =>
  (pv r17.2 (binA Try.prog .and 5 r17.1 (.v (Go.Value.int Go.IntKind.u8 1)))).bind fun r18 =>
  (convA Try.prog r18.2 5 3 r18.1).bind fun r19 =>
  (pv r19.2 (binA Try.prog .add 3 (get (prune kp_num_Count (prune kp_num_Count s.env)) 5) r19.1)).bind fun r20 =>
  (pv r20.2 (binA Try.prog .add 3 (get (prune kp_num_Count (prune kp_num_Count (prune kp_num_Count s.env))) 10) (.v (Go.Value.int Go.IntKind.i64 1)))).bind fun r21 =>
  some (.normal, ⟨((10, r21.1) :: (5, r20.1) :: (6, (get (prune kp_num_Count s.env) 10)) :: (11, r12.1) :: (prune kp_num_Count (prune kp_num_Count (prune kp_num_Count (prune kp_num_Count s.env))))), r21.2⟩)) (some (.exit 0, ⟨((11, r12.1) :: (prune kp_num_Count s.env)), r12.2⟩))
noncomputable def B_num_Count_0 (_E : FnA) (_n _n0 : Nat) (x10 x9 x5 x4 x0 x1 : AV) (y : Bx) : Option (Ex × S) :=
  (pv y (binA Try.prog .lss 3 x10 x9)).bind fun r2 =>
  condA r2.1 ((pv r2.2 (binA Try.prog .quo 3 x10 (.v (Go.Value.int Go.IntKind.i64 8)))).bind fun r3 =>
  (pv r3.2 (indexAddrA Try.prog 22 x0 r3.1)).bind fun r4 =>
  (pv r4.2 (loadA Try.prog 5 r4.2 r4.1)).bind fun r5 =>
  (pv r5.2 (binA Try.prog .rem 3 x10 (.v (Go.Value.int Go.IntKind.i64 8)))).bind fun r6 =>
  (pv r6.2 (binA Try.prog .shr 5 r5.1 r6.1)).bind fun r7 =>
  (pv r7.2 (binA Try.prog .and 5 r7.1 (.v (Go.Value.int Go.IntKind.u8 1)))).bind fun r8 =>
  (convA Try.prog r8.2 5 3 r8.1).bind fun r9 =>
  (pv r9.2 (binA Try.prog .add 3 x5 r9.1)).bind fun r10 =>
  (pv r10.2 (binA Try.prog .add 3 x10 (.v (Go.Value.int Go.IntKind.i64 1)))).bind fun r11 =>
  some (.normal, ⟨[(10, r11.1), (5, r10.1), (6, x10), (11, r2.1), (10, x10), (9, x9), (5, x5), (4, x4), (0, x0), (1, x1)], r11.2⟩)) (some (.exit 0, ⟨[(11, r2.1), (10, x10), (9, x9), (5, x5), (4, x4), (0, x0), (1, x1)], r2.2⟩))
theorem L_num_Count_0_lit {E : FnA} {n n0 : Nat} {x10 x9 x5 x4 x0 x1 : AV} {y : Bx} {Q : Ex → S → Prop} (h : Ends (B_num_Count_0 E n n0 x10 x9 x5 x4 x0 x1 y) Q) : Ends (L_num_Count_0 E n n0 ⟨[(10, x10), (9, x9), (5, x5), (4, x4), (0, x0), (1, x1)], y⟩) Q := by
  rw [show L_num_Count_0 E n n0 ⟨[(10, x10), (9, x9), (5, x5), (4, x4), (0, x0), (1, x1)], y⟩ = B_num_Count_0 E n n0 x10 x9 x5 x4 x0 x1 y by kernel_rfl]
  exact h
noncomputable def K_num_Count_0 (_E : FnA) (_n _n0 : Nat) (t : S) : Option (Ex × S) :=
  some (.ret, ⟨((4, (get t.env 5)) :: (prune kp_num_Count t.env)), t.bx⟩)
noncomputable def X_num_Count_0 (_E : FnA) (_n _n0 : Nat) (i : Nat) (t : S) : Option (Ex × S) :=
  if i = 0 then some (.ret, ⟨((4, (get t.env 5)) :: (prune kp_num_Count t.env)), t.bx⟩) else some (.exit i, ⟨t.env, t.bx⟩)
noncomputable def X_num_Count_0_0 (_E : FnA) (_n _n0 : Nat) (x11 x10 x9 x5 x4 x0 x1 : AV) (y : Bx) : Option (Ex × S) :=
  some (.ret, ⟨[(4, x5), (11, x11), (10, x10), (9, x9), (5, x5), (4, x4), (0, x0), (1, x1)], y⟩)
theorem X_num_Count_0_0_lit {E : FnA} {n n0 : Nat} {x11 x10 x9 x5 x4 x0 x1 : AV} {y : Bx} {Q : Ex → S → Prop} (h : Ends (X_num_Count_0_0 E n n0 x11 x10 x9 x5 x4 x0 x1 y) Q) : Ends (X_num_Count_0 E n n0 0 ⟨[(11, x11), (10, x10), (9, x9), (5, x5), (4, x4), (0, x0), (1, x1)], y⟩) Q := by
  rw [show X_num_Count_0 E n n0 0 ⟨[(11, x11), (10, x10), (9, x9), (5, x5), (4, x4), (0, x0), (1, x1)], y⟩ = X_num_Count_0_0 E n n0 x11 x10 x9 x5 x4 x0 x1 y by kernel_rfl]
  exact h
noncomputable def F_num_Count (E : FnA) (n n0 : Nat) (a0 a1 : AV) (bx : Bx) : Option (Ex × S) :=
  (callA E md0 bx 31 [a0, a1]).bind fun r1 =>
  exitA (iter ⟨[(10, (.v (Go.Value.int Go.IntKind.i64 0))), (9, r1.1), (5, (.v (Go.Value.int Go.IntKind.i64 0))), (4, (.v (Go.Value.int Go.IntKind.i64 0))), (0, a0), (1, a1)], r1.2⟩ (L_num_Count_0 E n n0) n ⟨[(10, (.v (Go.Value.int Go.IntKind.i64 0))), (9, r1.1), (5, (.v (Go.Value.int Go.IntKind.i64 0))), (4, (.v (Go.Value.int Go.IntKind.i64 0))), (0, a0), (1, a1)], r1.2⟩) (K_num_Count_0 E n n0) (X_num_Count_0 E n n0)
theorem c_num_Count_eq : Try.f15.body = some c_num_Count := by kernel_rfl
theorem d_num_Count : drawsOk Try.prog md0 c_num_Count = true := by kernel_rfl
theorem F_num_Count_eq (E : FnA) (n n0 : Nat) (a0 a1 : AV) (bx : Bx) : evK Try.prog md0 E 27 kp_num_Count n n0 c_num_Count ⟨[(0, a0), (1, a1)], bx⟩ (fun s => some (.normal, s)) (fun i s => some (.exit i, s)) = F_num_Count E n n0 a0 a1 bx := by kernel_rfl

theorem E_num_Count (n : Nat) (a0 a1 : AV) (bx : Bx) : evFn cx0 ext0 (n + 1) 15 [a0, a1] bx = fin Try.prog [.tmp 4] (F_num_Count (evFn cx0 ext0 n) n bx.length a0 a1 bx) := by
  rw [evFn_eq2 (cx := cx0) (c := c_num_Count) rfl Try.func15 c_num_Count_eq (of_decide_eq_true (by kernel_rfl)) d_num_Count (of_decide_eq_true (by kernel_rfl))]
  exact congrArg (fin Try.prog [.tmp 4]) (F_num_Count_eq (evFn cx0 ext0 n) n bx.length a0 a1 bx)

/-- scupper/scupperref01.Count -/
def kp_r01_Count : Option (List Nat) := some [0, 1, 4, 5, 6, 7, 18, 27]
noncomputable def c_r01_Count : Code := Try.f16.body.getD .skip
noncomputable def L_r01_Count_0 (E : FnA) (_n _n0 : Nat) (s : S) : Option (Ex × S) :=
  (pv s.bx (binA Try.prog .lss 3 (get s.env 6) (get s.env 1))).bind fun r14 =>
  (gsel true r14.2 (some ((get s.env 6), r14.2)) r14.1).bind fun r15 =>
  (gsel true r15.2 (pv r15.2 (binA Try.prog .quo 3 r15.1 (.v (Go.Value.int Go.IntKind.i64 8)))) r14.1).bind fun r16 =>
  (gsel true r16.2 (some ((get s.env 0), r16.2)) r14.1).bind fun r17 =>
  (gsel true r17.2 (pv r17.2 (lenA Try.prog 22 r17.1)) r14.1).bind fun r18 =>
  (gsel true r18.2 (pv r18.2 (binA Try.prog .lss 3 r16.1 r18.1)) r14.1).bind fun r19 =>
  (pv r19.2 (pickA r14.1 r19.1 (.v (Go.Value.bool false)))).bind fun r20 =>
  condA r20.1 ((callA E md0 r20.2 11 [(get (prune kp_r01_Count s.env) 0), (get (prune kp_r01_Count s.env) 6)]).bind fun r21 =>
  (pv r21.2 (tupA r21.1 0)).bind fun r22 =>
  (pv r22.2 (tupA r21.1 1)).bind fun r23 =>
  condA r22.1 ((pv r23.2 (binA Try.prog .add 3 (get (prune kp_r01_Count (prune kp_r01_Count (prune kp_r01_Count s.env))) 5) (.v (Go.Value.int Go.IntKind.i64 1)))).bind fun r24 =>
  (pv r24.2 (binA Try.prog .add 3 (get (prune kp_r01_Count (prune kp_r01_Count (prune kp_r01_Count (prune kp_r01_Count s.env)))) 6) (.v (Go.Value.int Go.IntKind.i64 1)))).bind fun r25 =>
  some (.normal, ⟨((6, r25.1) :: (5, r24.1) :: (27, r22.1) :: (7, r22.1) :: (18, r20.1) :: (prune kp_r01_Count (prune kp_r01_Count (prune kp_r01_Count (prune kp_r01_Count (prune kp_r01_Count s.env)))))), r25.2⟩)) ((pv r23.2 (binA Try.prog .add 3 (get (prune kp_r01_Count (prune kp_r01_Count (prune kp_r01_Count s.env))) 6) (.v (Go.Value.int Go.IntKind.i64 1)))).bind fun r26 =>
  some (.normal, ⟨((6, r26.1) :: (27, r22.1) :: (7, r22.1) :: (18, r20.1) :: (prune kp_r01_Count (prune kp_r01_Count (prune kp_r01_Count (prune kp_r01_Count s.env))))), r26.2⟩))) (some (.exit 0, ⟨((18, r20.1) :: (prune kp_r01_Count s.env)), r20.2⟩))
noncomputable def B_r01_Count_0 (E : FnA) (_n _n0 : Nat) (x6 x5 x4 x0 x1 : AV) (y : Bx) : Option (Ex × S) :=
  (pv y (binA Try.prog .lss 3 x6 x1)).bind fun r1 =>
  (gsel true r1.2 (some (x6, r1.2)) r1.1).bind fun r2 =>
  (gsel true r2.2 (pv r2.2 (binA Try.prog .quo 3 r2.1 (.v (Go.Value.int Go.IntKind.i64 8)))) r1.1).bind fun r3 =>
  (gsel true r3.2 (some (x0, r3.2)) r1.1).bind fun r4 =>
  (gsel true r4.2 (pv r4.2 (lenA Try.prog 22 r4.1)) r1.1).bind fun r5 =>
  (gsel true r5.2 (pv r5.2 (binA Try.prog .lss 3 r3.1 r5.1)) r1.1).bind fun r6 =>
  (pv r6.2 (pickA r1.1 r6.1 (.v (Go.Value.bool false)))).bind fun r7 =>
  condA r7.1 ((callA E md0 r7.2 11 [x0, x6]).bind fun r8 =>
  (pv r8.2 (tupA r8.1 0)).bind fun r9 =>
  (pv r9.2 (tupA r8.1 1)).bind fun r10 =>
  condA r9.1 ((pv r10.2 (binA Try.prog .add 3 x5 (.v (Go.Value.int Go.IntKind.i64 1)))).bind fun r11 =>
  (pv r11.2 (binA Try.prog .add 3 x6 (.v (Go.Value.int Go.IntKind.i64 1)))).bind fun r12 =>
  some (.normal, ⟨[(6, r12.1), (5, r11.1), (27, r9.1), (7, r9.1), (18, r7.1), (6, x6), (5, x5), (4, x4), (0, x0), (1, x1)], r12.2⟩)) ((pv r10.2 (binA Try.prog .add 3 x6 (.v (Go.Value.int Go.IntKind.i64 1)))).bind fun r13 =>
  some (.normal, ⟨[(6, r13.1), (27, r9.1), (7, r9.1), (18, r7.1), (6, x6), (5, x5), (4, x4), (0, x0), (1, x1)], r13.2⟩))) (some (.exit 0, ⟨[(18, r7.1), (6, x6), (5, x5), (4, x4), (0, x0), (1, x1)], r7.2⟩))
theorem L_r01_Count_0_lit {E : FnA} {n n0 : Nat} {x6 x5 x4 x0 x1 : AV} {y : Bx} {Q : Ex → S → Prop} (h : Ends (B_r01_Count_0 E n n0 x6 x5 x4 x0 x1 y) Q) : Ends (L_r01_Count_0 E n n0 ⟨[(6, x6), (5, x5), (4, x4), (0, x0), (1, x1)], y⟩) Q := by
  rw [show L_r01_Count_0 E n n0 ⟨[(6, x6), (5, x5), (4, x4), (0, x0), (1, x1)], y⟩ = B_r01_Count_0 E n n0 x6 x5 x4 x0 x1 y by kernel_rfl]
  exact h
noncomputable def K_r01_Count_0 (_E : FnA) (_n _n0 : Nat) (t : S) : Option (Ex × S) :=
  some (.ret, ⟨((4, (get t.env 5)) :: (prune kp_r01_Count t.env)), t.bx⟩)
noncomputable def X_r01_Count_0 (_E : FnA) (_n _n0 : Nat) (i : Nat) (t : S) : Option (Ex × S) :=
  if i = 0 then some (.ret, ⟨((4, (get t.env 5)) :: (prune kp_r01_Count t.env)), t.bx⟩) else some (.exit i, ⟨t.env, t.bx⟩)
noncomputable def X_r01_Count_0_0 (_E : FnA) (_n _n0 : Nat) (x18 x6 x5 x4 x0 x1 : AV) (y : Bx) : Option (Ex × S) :=
  some (.ret, ⟨[(4, x5), (18, x18), (6, x6), (5, x5), (4, x4), (0, x0), (1, x1)], y⟩)
theorem X_r01_Count_0_0_lit {E : FnA} {n n0 : Nat} {x18 x6 x5 x4 x0 x1 : AV} {y : Bx} {Q : Ex → S → Prop} (h : Ends (X_r01_Count_0_0 E n n0 x18 x6 x5 x4 x0 x1 y) Q) : Ends (X_r01_Count_0 E n n0 0 ⟨[(18, x18), (6, x6), (5, x5), (4, x4), (0, x0), (1, x1)], y⟩) Q := by
  rw [show X_r01_Count_0 E n n0 0 ⟨[(18, x18), (6, x6), (5, x5), (4, x4), (0, x0), (1, x1)], y⟩ = X_r01_Count_0_0 E n n0 x18 x6 x5 x4 x0 x1 y by kernel_rfl]
  exact h
noncomputable def F_r01_Count (E : FnA) (n n0 : Nat) (a0 a1 : AV) (bx : Bx) : Option (Ex × S) :=
  exitA (iter ⟨[(6, (.v (Go.Value.int Go.IntKind.i64 0))), (5, (.v (Go.Value.int Go.IntKind.i64 0))), (4, (.v (Go.Value.int Go.IntKind.i64 0))), (0, a0), (1, a1)], bx⟩ (L_r01_Count_0 E n n0) n ⟨[(6, (.v (Go.Value.int Go.IntKind.i64 0))), (5, (.v (Go.Value.int Go.IntKind.i64 0))), (4, (.v (Go.Value.int Go.IntKind.i64 0))), (0, a0), (1, a1)], bx⟩) (K_r01_Count_0 E n n0) (X_r01_Count_0 E n n0)
theorem c_r01_Count_eq : Try.f16.body = some c_r01_Count := by kernel_rfl
theorem d_r01_Count : drawsOk Try.prog md0 c_r01_Count = true := by kernel_rfl
theorem F_r01_Count_eq (E : FnA) (n n0 : Nat) (a0 a1 : AV) (bx : Bx) : evK Try.prog md0 E 31 kp_r01_Count n n0 c_r01_Count ⟨[(0, a0), (1, a1)], bx⟩ (fun s => some (.normal, s)) (fun i s => some (.exit i, s)) = F_r01_Count E n n0 a0 a1 bx := by kernel_rfl

theorem E_r01_Count (n : Nat) (a0 a1 : AV) (bx : Bx) : evFn cx0 ext0 (n + 1) 16 [a0, a1] bx = fin Try.prog [.tmp 4] (F_r01_Count (evFn cx0 ext0 n) n bx.length a0 a1 bx) := by
  rw [evFn_eq2 (cx := cx0) (c := c_r01_Count) rfl Try.func16 c_r01_Count_eq (of_decide_eq_true (by kernel_rfl)) d_r01_Count (of_decide_eq_true (by kernel_rfl))]
  exact congrArg (fin Try.prog [.tmp 4]) (F_r01_Count_eq (evFn cx0 ext0 n) n bx.length a0 a1 bx)

/-- scupper/num.First -/
def kp_num_First : Option (List Nat) := some [0, 1, 2, 6, 7, 8, 16, 26]
noncomputable def c_num_First : Code := Try.f17.body.getD .skip
noncomputable def L_num_First_0 (E : FnA) (_n _n0 : Nat) (s : S) : Option (Ex × S) :=
  (callA E md0 s.bx 31 [(get s.env 0), (get s.env 2)]).bind fun r9 =>
  (pv r9.2 (binA Try.prog .lss 3 (get s.env 7) r9.1)).bind fun r10 =>
  condA r10.1 ((callA E md0 r10.2 9 [(get (prune kp_num_First s.env) 0), (get (prune kp_num_First s.env) 7)]).bind fun r11 =>
  (pv r11.2 (tupA r11.1 0)).bind fun r12 =>
  (pv r12.2 (tupA r11.1 1)).bind fun r13 =>
  (pv r13.2 (unA .not r12.1)).bind fun r14 =>
  condA r14.1 (some (.ret, ⟨((6, (get (prune kp_num_First (prune kp_num_First (prune kp_num_First s.env))) 7)) :: (26, r14.1) :: (8, r12.1) :: (16, r10.1) :: (prune kp_num_First (prune kp_num_First (prune kp_num_First (prune kp_num_First s.env))))), r14.2⟩)) ((pv r14.2 (binA Try.prog .add 3 (get (prune kp_num_First (prune kp_num_First (prune kp_num_First s.env))) 7) (.v (Go.Value.int Go.IntKind.i64 1)))).bind fun r15 =>
  some (.normal, ⟨((7, r15.1) :: (26, r14.1) :: (8, r12.1) :: (16, r10.1) :: (prune kp_num_First (prune kp_num_First (prune kp_num_First (prune kp_num_First s.env))))), r15.2⟩))) (some (.exit 0, ⟨((16, r10.1) :: (prune kp_num_First s.env)), r10.2⟩))
noncomputable def B_num_First_0 (E : FnA) (_n _n0 : Nat) (x7 x6 x0 x1 x2 : AV) (y : Bx) : Option (Ex × S) :=
  (callA E md0 y 31 [x0, x2]).bind fun r2 =>
  (pv r2.2 (binA Try.prog .lss 3 x7 r2.1)).bind fun r3 =>
  condA r3.1 ((callA E md0 r3.2 9 [x0, x7]).bind fun r4 =>
  (pv r4.2 (tupA r4.1 0)).bind fun r5 =>
  (pv r5.2 (tupA r4.1 1)).bind fun r6 =>
  (pv r6.2 (unA .not r5.1)).bind fun r7 =>
  condA r7.1 (some (.ret, ⟨[(6, x7), (26, r7.1), (8, r5.1), (16, r3.1), (7, x7), (6, x6), (0, x0), (1, x1), (2, x2)], r7.2⟩)) ((pv r7.2 (binA Try.prog .add 3 x7 (.v (Go.Value.int Go.IntKind.i64 1)))).bind fun r8 =>
  some (.normal, ⟨[(7, r8.1), (26, r7.1), (8, r5.1), (16, r3.1), (7, x7), (6, x6), (0, x0), (1, x1), (2, x2)], r8.2⟩))) (some (.exit 0, ⟨[(16, r3.1), (7, x7), (6, x6), (0, x0), (1, x1), (2, x2)], r3.2⟩))
theorem L_num_First_0_lit {E : FnA} {n n0 : Nat} {x7 x6 x0 x1 x2 : AV} {y : Bx} {Q : Ex → S → Prop} (h : Ends (B_num_First_0 E n n0 x7 x6 x0 x1 x2 y) Q) : Ends (L_num_First_0 E n n0 ⟨[(7, x7), (6, x6), (0, x0), (1, x1), (2, x2)], y⟩) Q := by
  rw [show L_num_First_0 E n n0 ⟨[(7, x7), (6, x6), (0, x0), (1, x1), (2, x2)], y⟩ = B_num_First_0 E n n0 x7 x6 x0 x1 x2 y by kernel_rfl]
  exact h
noncomputable def K_num_First_0 (_E : FnA) (_n _n0 : Nat) (t : S) : Option (Ex × S) :=
  some (.ret, ⟨((6, (.v (Go.Value.int Go.IntKind.i64 (-1)))) :: (prune kp_num_First t.env)), t.bx⟩)
noncomputable def X_num_First_0 (_E : FnA) (_n _n0 : Nat) (i : Nat) (t : S) : Option (Ex × S) :=
  if i = 0 then some (.ret, ⟨((6, (.v (Go.Value.int Go.IntKind.i64 (-1)))) :: (prune kp_num_First t.env)), t.bx⟩) else some (.exit i, ⟨t.env, t.bx⟩)
noncomputable def X_num_First_0_0 (_E : FnA) (_n _n0 : Nat) (x16 x7 x6 x0 x1 x2 : AV) (y : Bx) : Option (Ex × S) :=
  some (.ret, ⟨[(6, (.v (Go.Value.int Go.IntKind.i64 (-1)))), (16, x16), (7, x7), (6, x6), (0, x0), (1, x1), (2, x2)], y⟩)
theorem X_num_First_0_0_lit {E : FnA} {n n0 : Nat} {x16 x7 x6 x0 x1 x2 : AV} {y : Bx} {Q : Ex → S → Prop} (h : Ends (X_num_First_0_0 E n n0 x16 x7 x6 x0 x1 x2 y) Q) : Ends (X_num_First_0 E n n0 0 ⟨[(16, x16), (7, x7), (6, x6), (0, x0), (1, x1), (2, x2)], y⟩) Q := by
  rw [show X_num_First_0 E n n0 0 ⟨[(16, x16), (7, x7), (6, x6), (0, x0), (1, x1), (2, x2)], y⟩ = X_num_First_0_0 E n n0 x16 x7 x6 x0 x1 x2 y by kernel_rfl]
  exact h
noncomputable def F_num_First (E : FnA) (n n0 : Nat) (a0 a1 a2 : AV) (bx : Bx) : Option (Ex × S) :=
  (pv bx (minL true a1 [(.v (Go.Value.int Go.IntKind.i64 0))])).bind fun r1 =>
  exitA (iter ⟨[(7, r1.1), (6, (.v (Go.Value.int Go.IntKind.i64 0))), (0, a0), (1, a1), (2, a2)], r1.2⟩ (L_num_First_0 E n n0) n ⟨[(7, r1.1), (6, (.v (Go.Value.int Go.IntKind.i64 0))), (0, a0), (1, a1), (2, a2)], r1.2⟩) (K_num_First_0 E n n0) (X_num_First_0 E n n0)
theorem c_num_First_eq : Try.f17.body = some c_num_First := by kernel_rfl
theorem d_num_First : drawsOk Try.prog md0 c_num_First = true := by kernel_rfl
theorem F_num_First_eq (E : FnA) (n n0 : Nat) (a0 a1 a2 : AV) (bx : Bx) : evK Try.prog md0 E 28 kp_num_First n n0 c_num_First ⟨[(0, a0), (1, a1), (2, a2)], bx⟩ (fun s => some (.normal, s)) (fun i s => some (.exit i, s)) = F_num_First E n n0 a0 a1 a2 bx := by kernel_rfl

theorem E_num_First (n : Nat) (a0 a1 a2 : AV) (bx : Bx) : evFn cx0 ext0 (n + 1) 17 [a0, a1, a2] bx = fin Try.prog [.tmp 6] (F_num_First (evFn cx0 ext0 n) n bx.length a0 a1 a2 bx) := by
  rw [evFn_eq2 (cx := cx0) (c := c_num_First) rfl Try.func17 c_num_First_eq (of_decide_eq_true (by kernel_rfl)) d_num_First (of_decide_eq_true (by kernel_rfl))]
  exact congrArg (fin Try.prog [.tmp 6]) (F_num_First_eq (evFn cx0 ext0 n) n bx.length a0 a1 a2 bx)

/-- scupper/scupperref01.First -/
def kp_r01_First : Option (List Nat) := some [0, 1, 2, 6, 7, 8, 21, 31]
noncomputable def c_r01_First : Code := Try.f18.body.getD .skip
noncomputable def L_r01_First_0 (E : FnA) (_n _n0 : Nat) (s : S) : Option (Ex × S) :=
  (pv s.bx (binA Try.prog .lss 3 (get s.env 7) (get s.env 2))).bind fun r14 =>
  (gsel true r14.2 (some ((get s.env 7), r14.2)) r14.1).bind fun r15 =>
  (gsel true r15.2 (pv r15.2 (binA Try.prog .quo 3 r15.1 (.v (Go.Value.int Go.IntKind.i64 8)))) r14.1).bind fun r16 =>
  (gsel true r16.2 (some ((get s.env 0), r16.2)) r14.1).bind fun r17 =>
  (gsel true r17.2 (pv r17.2 (lenA Try.prog 22 r17.1)) r14.1).bind fun r18 =>
  (gsel true r18.2 (pv r18.2 (binA Try.prog .lss 3 r16.1 r18.1)) r14.1).bind fun r19 =>
  (pv r19.2 (pickA r14.1 r19.1 (.v (Go.Value.bool false)))).bind fun r20 =>
  condA r20.1 ((callA E md0 r20.2 11 [(get (prune kp_r01_First s.env) 0), (get (prune kp_r01_First s.env) 7)]).bind fun r21 =>
  (pv r21.2 (tupA r21.1 0)).bind fun r22 =>
  (pv r22.2 (tupA r21.1 1)).bind fun r23 =>
  (pv r23.2 (unA .not r22.1)).bind fun r24 =>
  condA r24.1 (some (.ret, ⟨((6, (get (prune kp_r01_First (prune kp_r01_First (prune kp_r01_First s.env))) 7)) :: (31, r24.1) :: (8, r22.1) :: (21, r20.1) :: (prune kp_r01_First (prune kp_r01_First (prune kp_r01_First (prune kp_r01_First s.env))))), r24.2⟩)) ((pv r24.2 (binA Try.prog .add 3 (get (prune kp_r01_First (prune kp_r01_First (prune kp_r01_First s.env))) 7) (.v (Go.Value.int Go.IntKind.i64 1)))).bind fun r25 =>
  some (.normal, ⟨((7, r25.1) :: (31, r24.1) :: (8, r22.1) :: (21, r20.1) :: (prune kp_r01_First (prune kp_r01_First (prune kp_r01_First (prune kp_r01_First s.env))))), r25.2⟩))) (some (.exit 0, ⟨((21, r20.1) :: (prune kp_r01_First s.env)), r20.2⟩))
noncomputable def B_r01_First_0 (E : FnA) (_n _n0 : Nat) (x7 x6 x0 x1 x2 : AV) (y : Bx) : Option (Ex × S) :=
  (pv y (binA Try.prog .lss 3 x7 x2)).bind fun r2 =>
  (gsel true r2.2 (some (x7, r2.2)) r2.1).bind fun r3 =>
  (gsel true r3.2 (pv r3.2 (binA Try.prog .quo 3 r3.1 (.v (Go.Value.int Go.IntKind.i64 8)))) r2.1).bind fun r4 =>
  (gsel true r4.2 (some (x0, r4.2)) r2.1).bind fun r5 =>
  (gsel true r5.2 (pv r5.2 (lenA Try.prog 22 r5.1)) r2.1).bind fun r6 =>
  (gsel true r6.2 (pv r6.2 (binA Try.prog .lss 3 r4.1 r6.1)) r2.1).bind fun r7 =>
  (pv r7.2 (pickA r2.1 r7.1 (.v (Go.Value.bool false)))).bind fun r8 =>
  condA r8.1 ((callA E md0 r8.2 11 [x0, x7]).bind fun r9 =>
  (pv r9.2 (tupA r9.1 0)).bind fun r10 =>
  (pv r10.2 (tupA r9.1 1)).bind fun r11 =>
  (pv r11.2 (unA .not r10.1)).bind fun r12 =>
  condA r12.1 (some (.ret, ⟨[(6, x7), (31, r12.1), (8, r10.1), (21, r8.1), (7, x7), (6, x6), (0, x0), (1, x1), (2, x2)], r12.2⟩)) ((pv r12.2 (binA Try.prog .add 3 x7 (.v (Go.Value.int Go.IntKind.i64 1)))).bind fun r13 =>
  some (.normal, ⟨[(7, r13.1), (31, r12.1), (8, r10.1), (21, r8.1), (7, x7), (6, x6), (0, x0), (1, x1), (2, x2)], r13.2⟩))) (some (.exit 0, ⟨[(21, r8.1), (7, x7), (6, x6), (0, x0), (1, x1), (2, x2)], r8.2⟩))
theorem L_r01_First_0_lit {E : FnA} {n n0 : Nat} {x7 x6 x0 x1 x2 : AV} {y : Bx} {Q : Ex → S → Prop} (h : Ends (B_r01_First_0 E n n0 x7 x6 x0 x1 x2 y) Q) : Ends (L_r01_First_0 E n n0 ⟨[(7, x7), (6, x6), (0, x0), (1, x1), (2, x2)], y⟩) Q := by
  rw [show L_r01_First_0 E n n0 ⟨[(7, x7), (6, x6), (0, x0), (1, x1), (2, x2)], y⟩ = B_r01_First_0 E n n0 x7 x6 x0 x1 x2 y by kernel_rfl]
  exact h
noncomputable def K_r01_First_0 (_E : FnA) (_n _n0 : Nat) (t : S) : Option (Ex × S) :=
  some (.ret, ⟨((6, (.v (Go.Value.int Go.IntKind.i64 (-1)))) :: (prune kp_r01_First t.env)), t.bx⟩)
noncomputable def X_r01_First_0 (_E : FnA) (_n _n0 : Nat) (i : Nat) (t : S) : Option (Ex × S) :=
  if i = 0 then some (.ret, ⟨((6, (.v (Go.Value.int Go.IntKind.i64 (-1)))) :: (prune kp_r01_First t.env)), t.bx⟩) else some (.exit i, ⟨t.env, t.bx⟩)
noncomputable def X_r01_First_0_0 (_E : FnA) (_n _n0 : Nat) (x21 x7 x6 x0 x1 x2 : AV) (y : Bx) : Option (Ex × S) :=
  some (.ret, ⟨[(6, (.v (Go.Value.int Go.IntKind.i64 (-1)))), (21, x21), (7, x7), (6, x6), (0, x0), (1, x1), (2, x2)], y⟩)
theorem X_r01_First_0_0_lit {E : FnA} {n n0 : Nat} {x21 x7 x6 x0 x1 x2 : AV} {y : Bx} {Q : Ex → S → Prop} (h : Ends (X_r01_First_0_0 E n n0 x21 x7 x6 x0 x1 x2 y) Q) : Ends (X_r01_First_0 E n n0 0 ⟨[(21, x21), (7, x7), (6, x6), (0, x0), (1, x1), (2, x2)], y⟩) Q := by
  rw [show X_r01_First_0 E n n0 0 ⟨[(21, x21), (7, x7), (6, x6), (0, x0), (1, x1), (2, x2)], y⟩ = X_r01_First_0_0 E n n0 x21 x7 x6 x0 x1 x2 y by kernel_rfl]
  exact h
noncomputable def F_r01_First (E : FnA) (n n0 : Nat) (a0 a1 a2 : AV) (bx : Bx) : Option (Ex × S) :=
  (pv bx (minL true a1 [(.v (Go.Value.int Go.IntKind.i64 0))])).bind fun r1 =>
  exitA (iter ⟨[(7, r1.1), (6, (.v (Go.Value.int Go.IntKind.i64 0))), (0, a0), (1, a1), (2, a2)], r1.2⟩ (L_r01_First_0 E n n0) n ⟨[(7, r1.1), (6, (.v (Go.Value.int Go.IntKind.i64 0))), (0, a0), (1, a1), (2, a2)], r1.2⟩) (K_r01_First_0 E n n0) (X_r01_First_0 E n n0)
theorem c_r01_First_eq : Try.f18.body = some c_r01_First := by kernel_rfl
theorem d_r01_First : drawsOk Try.prog md0 c_r01_First = true := by kernel_rfl
theorem F_r01_First_eq (E : FnA) (n n0 : Nat) (a0 a1 a2 : AV) (bx : Bx) : evK Try.prog md0 E 33 kp_r01_First n n0 c_r01_First ⟨[(0, a0), (1, a1), (2, a2)], bx⟩ (fun s => some (.normal, s)) (fun i s => some (.exit i, s)) = F_r01_First E n n0 a0 a1 a2 bx := by kernel_rfl

theorem E_r01_First (n : Nat) (a0 a1 a2 : AV) (bx : Bx) : evFn cx0 ext0 (n + 1) 18 [a0, a1, a2] bx = fin Try.prog [.tmp 6] (F_r01_First (evFn cx0 ext0 n) n bx.length a0 a1 a2 bx) := by
  rw [evFn_eq2 (cx := cx0) (c := c_r01_First) rfl Try.func18 c_r01_First_eq (of_decide_eq_true (by kernel_rfl)) d_r01_First (of_decide_eq_true (by kernel_rfl))]
  exact congrArg (fin Try.prog [.tmp 6]) (F_r01_First_eq (evFn cx0 ext0 n) n bx.length a0 a1 a2 bx)

/-- scupper/scupperlaw01.works -/
def kp_l01_works : Option (List Nat) := some [0, 1, 2, 3, 4]
noncomputable def c_l01_works : Code := Try.f19.body.getD .skip
noncomputable def F_l01_works (E : FnA) (_n _n0 : Nat) (bx : Bx) : Option (Ex × S) :=
  (buildSliceA Try.prog bx 22 2 [(0, (.v (Go.Value.int Go.IntKind.u8 1))), (1, (.v (Go.Value.int Go.IntKind.u8 2)))]).bind fun r1 =>
  (callA E md0 r1.2 24 [r1.1, (.v (Go.Value.int Go.IntKind.i64 0))]).bind fun r2 =>
  (pv r2.2 (tupA r2.1 0)).bind fun r3 =>
  (pv r3.2 (tupA r2.1 1)).bind fun r4 =>
  (buildSliceA Try.prog r4.2 22 2 [(0, (.v (Go.Value.int Go.IntKind.u8 0))), (1, (.v (Go.Value.int Go.IntKind.u8 0)))]).bind fun r5 =>
  (callA E md0 r5.2 12 [r5.1, (.v (Go.Value.int Go.IntKind.i64 9)), (.v (Go.Value.bool true))]).bind fun r6 =>
  (pv r6.2 (tupA r6.1 0)).bind fun r7 =>
  (pv r7.2 (tupA r6.1 1)).bind fun r8 =>
  (pv r8.2 (binA Try.prog .eql 35 r3.1 (.v (Go.Value.int Go.IntKind.u16 513)))).bind fun r9 =>
  (gsel true r9.2 (some (r4.1, r9.2)) r9.1).bind fun r10 =>
  (gsel true r10.2 (pv r10.2 (binA Try.prog .eql 23 r10.1 (.v (Go.Value.int Go.IntKind.i64 0)))) r9.1).bind fun r11 =>
  (pv r11.2 (pickA r9.1 r11.1 (.v (Go.Value.bool false)))).bind fun r12 =>
  (gsel true r12.2 (some (r7.1, r12.2)) r12.1).bind fun r13 =>
  (gsel true r13.2 (buildSliceA Try.prog r13.2 22 2 [(0, (.v (Go.Value.int Go.IntKind.u8 0))), (1, (.v (Go.Value.int Go.IntKind.u8 2)))]) r12.1).bind fun r14 =>
  (gsel true r14.2 (callA E md0 r14.2 14 [r13.1, r14.1]) r12.1).bind fun r15 =>
  (pv r15.2 (pickA r12.1 r15.1 (.v (Go.Value.bool false)))).bind fun r16 =>
  (gsel true r16.2 (some (r8.1, r16.2)) r16.1).bind fun r17 =>
  (gsel true r17.2 (pv r17.2 (binA Try.prog .eql 23 r17.1 (.v (Go.Value.int Go.IntKind.i64 0)))) r16.1).bind fun r18 =>
  (pv r18.2 (pickA r16.1 r18.1 (.v (Go.Value.bool false)))).bind fun r19 =>
  (gsel true r19.2 (buildSliceA Try.prog r19.2 22 2 [(0, (.v (Go.Value.int Go.IntKind.u8 255))), (1, (.v (Go.Value.int Go.IntKind.u8 1)))]) r19.1).bind fun r20 =>
  (gsel true r20.2 (callA E md0 r20.2 17 [r20.1, (.v (Go.Value.int Go.IntKind.i64 0)), (.v (Go.Value.int Go.IntKind.i64 16))]) r19.1).bind fun r21 =>
  (gsel true r21.2 (pv r21.2 (binA Try.prog .eql 3 r21.1 (.v (Go.Value.int Go.IntKind.i64 9)))) r19.1).bind fun r22 =>
  (pv r22.2 (pickA r19.1 r22.1 (.v (Go.Value.bool false)))).bind fun r23 =>
  some (.ret, ⟨[(0, r23.1), (4, r8.1), (3, r7.1), (2, r4.1), (1, r3.1), (0, (.v (Go.Value.bool false)))], r23.2⟩)
theorem c_l01_works_eq : Try.f19.body = some c_l01_works := by kernel_rfl
theorem d_l01_works : drawsOk Try.prog md0 c_l01_works = true := by kernel_rfl
theorem F_l01_works_eq (E : FnA) (n n0 : Nat) (bx : Bx) : evK Try.prog md0 E 35 kp_l01_works n n0 c_l01_works ⟨[], bx⟩ (fun s => some (.normal, s)) (fun i s => some (.exit i, s)) = F_l01_works E n n0  bx := by kernel_rfl

theorem E_l01_works (n : Nat) (bx : Bx) : evFn cx0 ext0 (n + 1) 19 [] bx = fin Try.prog [.tmp 0] (F_l01_works (evFn cx0 ext0 n) n bx.length  bx) := by
  rw [evFn_eq2 (cx := cx0) (c := c_l01_works) rfl Try.func19 c_l01_works_eq (of_decide_eq_true (by kernel_rfl)) d_l01_works (of_decide_eq_true (by kernel_rfl))]
  exact congrArg (fin Try.prog [.tmp 0]) (F_l01_works_eq (evFn cx0 ext0 n) n bx.length  bx)

/-- scupper/num.Put16 -/
def kp_num_Put16 : Option (List Nat) := some [0, 2]
noncomputable def c_num_Put16 : Code := Try.f20.body.getD .skip
noncomputable def F_num_Put16 (_E : FnA) (_n _n0 : Nat) (a0 : AV) (bx : Bx) : Option (Ex × S) :=
  (allocA Try.prog bx 37).bind fun r1 =>
  (convA Try.prog r1.2 35 5 a0).bind fun r2 =>
  (pv r2.2 (binA Try.prog .shr 35 a0 (.v (Go.Value.int Go.IntKind.u64 8)))).bind fun r3 =>
  (convA Try.prog r3.2 35 5 r3.1).bind fun r4 =>
  (pv r4.2 (buildA Try.prog 37 [(0, r2.1), (1, r4.1)])).bind fun r5 =>
  (stA Try.prog 37 r5.2 r1.1 r5.1).bind fun r6 =>
  some (.ret, ⟨[(2, r1.1), (0, a0)], r6.2⟩)
theorem c_num_Put16_eq : Try.f20.body = some c_num_Put16 := by kernel_rfl
theorem d_num_Put16 : drawsOk Try.prog md0 c_num_Put16 = true := by kernel_rfl
theorem F_num_Put16_eq (E : FnA) (n n0 : Nat) (a0 : AV) (bx : Bx) : evK Try.prog md0 E 9 kp_num_Put16 n n0 c_num_Put16 ⟨[(0, a0)], bx⟩ (fun s => some (.normal, s)) (fun i s => some (.exit i, s)) = F_num_Put16 E n n0 a0 bx := by kernel_rfl

theorem E_num_Put16 (n : Nat) (a0 : AV) (bx : Bx) : evFn cx0 ext0 (n + 1) 20 [a0] bx = fin Try.prog [.cell 2 37] (F_num_Put16 (evFn cx0 ext0 n) n bx.length a0 bx) := by
  rw [evFn_eq2 (cx := cx0) (c := c_num_Put16) rfl Try.func20 c_num_Put16_eq (of_decide_eq_true (by kernel_rfl)) d_num_Put16 (of_decide_eq_true (by kernel_rfl))]
  exact congrArg (fin Try.prog [.cell 2 37]) (F_num_Put16_eq (evFn cx0 ext0 n) n bx.length a0 bx)

/-- scupper/num.Put32 -/
def kp_num_Put32 : Option (List Nat) := some [0, 2, 3, 4, 5, 6]
noncomputable def c_num_Put32 : Code := Try.f21.body.getD .skip
noncomputable def L_num_Put32_0 (_E : FnA) (_n _n0 : Nat) (s : S) : Option (Ex × S) :=
  (pv s.bx (binA Try.prog .lss 3 (get s.env 5) (.v (Go.Value.int Go.IntKind.i64 4)))).bind fun r10 =>
  condA r10.1 ((pv r10.2 (binA Try.prog .mul 3 (.v (Go.Value.int Go.IntKind.i64 8)) (get (prune kp_num_Put32 s.env) 5))).bind fun r11 =>
  (pv r11.2 (binA Try.prog .shr 36 (get (prune kp_num_Put32 (prune kp_num_Put32 s.env)) 0) r11.1)).bind fun r12 =>
  (convA Try.prog r12.2 36 5 r12.1).bind fun r13 =>
  (pv r13.2 (indexAddrA Try.prog 39 (get (prune kp_num_Put32 (prune kp_num_Put32 s.env)) 3) (get (prune kp_num_Put32 s.env) 5))).bind fun r14 =>
  (stA Try.prog 5 r14.2 r14.1 r13.1).bind fun r15 =>
  (pv r15.2 (binA Try.prog .add 3 (get (prune kp_num_Put32 (prune kp_num_Put32 (prune kp_num_Put32 s.env))) 5) (.v (Go.Value.int Go.IntKind.i64 1)))).bind fun r16 =>
  some (.normal, ⟨((5, r16.1) :: (4, (get (prune kp_num_Put32 s.env) 5)) :: (6, r10.1) :: (prune kp_num_Put32 (prune kp_num_Put32 (prune kp_num_Put32 (prune kp_num_Put32 s.env))))), r16.2⟩)) (some (.exit 0, ⟨((6, r10.1) :: (prune kp_num_Put32 s.env)), r10.2⟩))
noncomputable def B_num_Put32_0 (_E : FnA) (_n _n0 : Nat) (x5 x3 x2 x0 : AV) (y : Bx) : Option (Ex × S) :=
  (pv y (binA Try.prog .lss 3 x5 (.v (Go.Value.int Go.IntKind.i64 4)))).bind fun r3 =>
  condA r3.1 ((pv r3.2 (binA Try.prog .mul 3 (.v (Go.Value.int Go.IntKind.i64 8)) x5)).bind fun r4 =>
  (pv r4.2 (binA Try.prog .shr 36 x0 r4.1)).bind fun r5 =>
  (convA Try.prog r5.2 36 5 r5.1).bind fun r6 =>
  (pv r6.2 (indexAddrA Try.prog 39 x3 x5)).bind fun r7 =>
  (stA Try.prog 5 r7.2 r7.1 r6.1).bind fun r8 =>
  (pv r8.2 (binA Try.prog .add 3 x5 (.v (Go.Value.int Go.IntKind.i64 1)))).bind fun r9 =>
  some (.normal, ⟨[(5, r9.1), (4, x5), (6, r3.1), (5, x5), (3, x3), (2, x2), (0, x0)], r9.2⟩)) (some (.exit 0, ⟨[(6, r3.1), (5, x5), (3, x3), (2, x2), (0, x0)], r3.2⟩))
theorem L_num_Put32_0_lit {E : FnA} {n n0 : Nat} {x5 x3 x2 x0 : AV} {y : Bx} {Q : Ex → S → Prop} (h : Ends (B_num_Put32_0 E n n0 x5 x3 x2 x0 y) Q) : Ends (L_num_Put32_0 E n n0 ⟨[(5, x5), (3, x3), (2, x2), (0, x0)], y⟩) Q := by
  rw [show L_num_Put32_0 E n n0 ⟨[(5, x5), (3, x3), (2, x2), (0, x0)], y⟩ = B_num_Put32_0 E n n0 x5 x3 x2 x0 y by kernel_rfl]
  exact h
noncomputable def K_num_Put32_0 (_E : FnA) (_n _n0 : Nat) (t : S) : Option (Ex × S) :=
  (pv t.bx (loadA Try.prog 39 t.bx (get t.env 3))).bind fun r19 =>
  (stA Try.prog 39 r19.2 (get t.env 2) r19.1).bind fun r20 =>
  some (.ret, ⟨(prune kp_num_Put32 t.env), r20.2⟩)
noncomputable def X_num_Put32_0 (_E : FnA) (_n _n0 : Nat) (i : Nat) (t : S) : Option (Ex × S) :=
  if i = 0 then (pv t.bx (loadA Try.prog 39 t.bx (get t.env 3))).bind fun r17 =>
  (stA Try.prog 39 r17.2 (get t.env 2) r17.1).bind fun r18 =>
  some (.ret, ⟨(prune kp_num_Put32 t.env), r18.2⟩) else some (.exit i, ⟨t.env, t.bx⟩)
noncomputable def X_num_Put32_0_0 (_E : FnA) (_n _n0 : Nat) (x6 x5 x3 x2 x0 : AV) (y : Bx) : Option (Ex × S) :=
  (pv y (loadA Try.prog 39 y x3)).bind fun r21 =>
  (stA Try.prog 39 r21.2 x2 r21.1).bind fun r22 =>
  some (.ret, ⟨[(6, x6), (5, x5), (3, x3), (2, x2), (0, x0)], r22.2⟩)
theorem X_num_Put32_0_0_lit {E : FnA} {n n0 : Nat} {x6 x5 x3 x2 x0 : AV} {y : Bx} {Q : Ex → S → Prop} (h : Ends (X_num_Put32_0_0 E n n0 x6 x5 x3 x2 x0 y) Q) : Ends (X_num_Put32_0 E n n0 0 ⟨[(6, x6), (5, x5), (3, x3), (2, x2), (0, x0)], y⟩) Q := by
  rw [show X_num_Put32_0 E n n0 0 ⟨[(6, x6), (5, x5), (3, x3), (2, x2), (0, x0)], y⟩ = X_num_Put32_0_0 E n n0 x6 x5 x3 x2 x0 y by kernel_rfl]
  exact h
noncomputable def F_num_Put32 (E : FnA) (n n0 : Nat) (a0 : AV) (bx : Bx) : Option (Ex × S) :=
  (allocA Try.prog bx 39).bind fun r1 =>
  (allocA Try.prog r1.2 39).bind fun r2 =>
  exitA (iter ⟨[(5, (.v (Go.Value.int Go.IntKind.i64 0))), (3, r2.1), (2, r1.1), (0, a0)], r2.2⟩ (L_num_Put32_0 E n n0) n ⟨[(5, (.v (Go.Value.int Go.IntKind.i64 0))), (3, r2.1), (2, r1.1), (0, a0)], r2.2⟩) (K_num_Put32_0 E n n0) (X_num_Put32_0 E n n0)
theorem c_num_Put32_eq : Try.f21.body = some c_num_Put32 := by kernel_rfl
theorem d_num_Put32 : drawsOk Try.prog md0 c_num_Put32 = true := by kernel_rfl
theorem F_num_Put32_eq (E : FnA) (n n0 : Nat) (a0 : AV) (bx : Bx) : evK Try.prog md0 E 17 kp_num_Put32 n n0 c_num_Put32 ⟨[(0, a0)], bx⟩ (fun s => some (.normal, s)) (fun i s => some (.exit i, s)) = F_num_Put32 E n n0 a0 bx := by kernel_rfl

theorem E_num_Put32 (n : Nat) (a0 : AV) (bx : Bx) : evFn cx0 ext0 (n + 1) 21 [a0] bx = fin Try.prog [.cell 2 39] (F_num_Put32 (evFn cx0 ext0 n) n bx.length a0 bx) := by
  rw [evFn_eq2 (cx := cx0) (c := c_num_Put32) rfl Try.func21 c_num_Put32_eq (of_decide_eq_true (by kernel_rfl)) d_num_Put32 (of_decide_eq_true (by kernel_rfl))]
  exact congrArg (fin Try.prog [.cell 2 39]) (F_num_Put32_eq (evFn cx0 ext0 n) n bx.length a0 bx)

/-- scupper/scupperref01.Put16 -/
def kp_r01_Put16 : Option (List Nat) := some [0, 2]
noncomputable def c_r01_Put16 : Code := Try.f22.body.getD .skip
noncomputable def F_r01_Put16 (_E : FnA) (_n _n0 : Nat) (a0 : AV) (bx : Bx) : Option (Ex × S) :=
  (some (AV.bsl (List.length bx) 0 0 0, bx ++ [[]])).bind fun r1 =>
  (pv r1.2 (binA Try.prog .rem 35 a0 (.v (Go.Value.int Go.IntKind.u16 256)))).bind fun r2 =>
  (convA Try.prog r2.2 35 5 r2.1).bind fun r3 =>
  (pv r3.2 (binA Try.prog .quo 35 a0 (.v (Go.Value.int Go.IntKind.u16 256)))).bind fun r4 =>
  (convA Try.prog r4.2 35 5 r4.1).bind fun r5 =>
  (buildSliceA Try.prog r5.2 22 2 [(0, r3.1), (1, r5.1)]).bind fun r6 =>
  some (.ret, ⟨[(2, r6.1), (2, r1.1), (0, a0)], r6.2⟩)
theorem c_r01_Put16_eq : Try.f22.body = some c_r01_Put16 := by kernel_rfl
theorem d_r01_Put16 : drawsOk Try.prog md0 c_r01_Put16 = true := by kernel_rfl
theorem F_r01_Put16_eq (E : FnA) (n n0 : Nat) (a0 : AV) (bx : Bx) : evK Try.prog md0 E 10 kp_r01_Put16 n n0 c_r01_Put16 ⟨[(0, a0)], bx⟩ (fun s => some (.normal, s)) (fun i s => some (.exit i, s)) = F_r01_Put16 E n n0 a0 bx := by kernel_rfl

theorem E_r01_Put16 (n : Nat) (a0 : AV) (bx : Bx) : evFn cx0 ext0 (n + 1) 22 [a0] bx = fin Try.prog [.tmp 2] (F_r01_Put16 (evFn cx0 ext0 n) n bx.length a0 bx) := by
  rw [evFn_eq2 (cx := cx0) (c := c_r01_Put16) rfl Try.func22 c_r01_Put16_eq (of_decide_eq_true (by kernel_rfl)) d_r01_Put16 (of_decide_eq_true (by kernel_rfl))]
  exact congrArg (fin Try.prog [.tmp 2]) (F_r01_Put16_eq (evFn cx0 ext0 n) n bx.length a0 bx)

/-- scupper/scupperref01.Put32 -/
def kp_r01_Put32 : Option (List Nat) := some [0, 2]
noncomputable def c_r01_Put32 : Code := Try.f23.body.getD .skip
noncomputable def F_r01_Put32 (_E : FnA) (_n _n0 : Nat) (a0 : AV) (bx : Bx) : Option (Ex × S) :=
  (some (AV.bsl (List.length bx) 0 0 0, bx ++ [[]])).bind fun r1 =>
  (pv r1.2 (binA Try.prog .rem 36 a0 (.v (Go.Value.int Go.IntKind.u32 256)))).bind fun r2 =>
  (convA Try.prog r2.2 36 5 r2.1).bind fun r3 =>
  (pv r3.2 (binA Try.prog .quo 36 a0 (.v (Go.Value.int Go.IntKind.u32 256)))).bind fun r4 =>
  (pv r4.2 (binA Try.prog .rem 36 r4.1 (.v (Go.Value.int Go.IntKind.u32 256)))).bind fun r5 =>
  (convA Try.prog r5.2 36 5 r5.1).bind fun r6 =>
  (pv r6.2 (binA Try.prog .quo 36 a0 (.v (Go.Value.int Go.IntKind.u32 65536)))).bind fun r7 =>
  (pv r7.2 (binA Try.prog .rem 36 r7.1 (.v (Go.Value.int Go.IntKind.u32 256)))).bind fun r8 =>
  (convA Try.prog r8.2 36 5 r8.1).bind fun r9 =>
  (pv r9.2 (binA Try.prog .quo 36 a0 (.v (Go.Value.int Go.IntKind.u32 16777216)))).bind fun r10 =>
  (convA Try.prog r10.2 36 5 r10.1).bind fun r11 =>
  (buildSliceA Try.prog r11.2 22 4 [(0, r3.1), (1, r6.1), (2, r9.1), (3, r11.1)]).bind fun r12 =>
  some (.ret, ⟨[(2, r12.1), (2, r1.1), (0, a0)], r12.2⟩)
theorem c_r01_Put32_eq : Try.f23.body = some c_r01_Put32 := by kernel_rfl
theorem d_r01_Put32 : drawsOk Try.prog md0 c_r01_Put32 = true := by kernel_rfl
theorem F_r01_Put32_eq (E : FnA) (n n0 : Nat) (a0 : AV) (bx : Bx) : evK Try.prog md0 E 18 kp_r01_Put32 n n0 c_r01_Put32 ⟨[(0, a0)], bx⟩ (fun s => some (.normal, s)) (fun i s => some (.exit i, s)) = F_r01_Put32 E n n0 a0 bx := by kernel_rfl

theorem E_r01_Put32 (n : Nat) (a0 : AV) (bx : Bx) : evFn cx0 ext0 (n + 1) 23 [a0] bx = fin Try.prog [.tmp 2] (F_r01_Put32 (evFn cx0 ext0 n) n bx.length a0 bx) := by
  rw [evFn_eq2 (cx := cx0) (c := c_r01_Put32) rfl Try.func23 c_r01_Put32_eq (of_decide_eq_true (by kernel_rfl)) d_r01_Put32 (of_decide_eq_true (by kernel_rfl))]
  exact congrArg (fin Try.prog [.tmp 2]) (F_r01_Put32_eq (evFn cx0 ext0 n) n bx.length a0 bx)

/-- scupper/num.Get16 -/
def kp_num_Get16 : Option (List Nat) := some [0, 1, 4, 5, 6, 7]
noncomputable def c_num_Get16 : Code := Try.f24.body.getD .skip
noncomputable def F_num_Get16 (E : FnA) (_n _n0 : Nat) (a0 a1 : AV) (bx : Bx) : Option (Ex × S) :=
  (callA E md0 bx 32 [a0, a1, (.v (Go.Value.int Go.IntKind.i64 2))]).bind fun r1 =>
  (pv r1.2 (tupA r1.1 0)).bind fun r2 =>
  (pv r2.2 (tupA r1.1 1)).bind fun r3 =>
  (convA Try.prog r3.2 36 35 r2.1).bind fun r4 =>
  some (.ret, ⟨[(5, r3.1), (4, r4.1), (7, r3.1), (6, r2.1), (5, (.v (Go.Value.int Go.IntKind.i64 0))), (4, (.v (Go.Value.int Go.IntKind.u16 0))), (0, a0), (1, a1)], r4.2⟩)
theorem c_num_Get16_eq : Try.f24.body = some c_num_Get16 := by kernel_rfl
theorem d_num_Get16 : drawsOk Try.prog md0 c_num_Get16 = true := by kernel_rfl
theorem F_num_Get16_eq (E : FnA) (n n0 : Nat) (a0 a1 : AV) (bx : Bx) : evK Try.prog md0 E 17 kp_num_Get16 n n0 c_num_Get16 ⟨[(0, a0), (1, a1)], bx⟩ (fun s => some (.normal, s)) (fun i s => some (.exit i, s)) = F_num_Get16 E n n0 a0 a1 bx := by kernel_rfl

theorem E_num_Get16 (n : Nat) (a0 a1 : AV) (bx : Bx) : evFn cx0 ext0 (n + 1) 24 [a0, a1] bx = fin Try.prog [.tmp 4, .tmp 5] (F_num_Get16 (evFn cx0 ext0 n) n bx.length a0 a1 bx) := by
  rw [evFn_eq2 (cx := cx0) (c := c_num_Get16) rfl Try.func24 c_num_Get16_eq (of_decide_eq_true (by kernel_rfl)) d_num_Get16 (of_decide_eq_true (by kernel_rfl))]
  exact congrArg (fin Try.prog [.tmp 4, .tmp 5]) (F_num_Get16_eq (evFn cx0 ext0 n) n bx.length a0 a1 bx)

/-- scupper/scupperref01.Get16 -/
def kp_r01_Get16 : Option (List Nat) := some [0, 1, 4, 5, 6, 7]
noncomputable def c_r01_Get16 : Code := Try.f25.body.getD .skip
noncomputable def F_r01_Get16 (E : FnA) (_n _n0 : Nat) (a0 a1 : AV) (bx : Bx) : Option (Ex × S) :=
  (callA E md0 bx 33 [a0, a1, (.v (Go.Value.int Go.IntKind.i64 2))]).bind fun r1 =>
  (pv r1.2 (tupA r1.1 0)).bind fun r2 =>
  (pv r2.2 (tupA r1.1 1)).bind fun r3 =>
  (convA Try.prog r3.2 55 35 r2.1).bind fun r4 =>
  some (.ret, ⟨[(5, r3.1), (4, r4.1), (7, r3.1), (6, r2.1), (5, (.v (Go.Value.int Go.IntKind.i64 0))), (4, (.v (Go.Value.int Go.IntKind.u16 0))), (0, a0), (1, a1)], r4.2⟩)
theorem c_r01_Get16_eq : Try.f25.body = some c_r01_Get16 := by kernel_rfl
theorem d_r01_Get16 : drawsOk Try.prog md0 c_r01_Get16 = true := by kernel_rfl
theorem F_r01_Get16_eq (E : FnA) (n n0 : Nat) (a0 a1 : AV) (bx : Bx) : evK Try.prog md0 E 17 kp_r01_Get16 n n0 c_r01_Get16 ⟨[(0, a0), (1, a1)], bx⟩ (fun s => some (.normal, s)) (fun i s => some (.exit i, s)) = F_r01_Get16 E n n0 a0 a1 bx := by kernel_rfl

theorem E_r01_Get16 (n : Nat) (a0 a1 : AV) (bx : Bx) : evFn cx0 ext0 (n + 1) 25 [a0, a1] bx = fin Try.prog [.tmp 4, .tmp 5] (F_r01_Get16 (evFn cx0 ext0 n) n bx.length a0 a1 bx) := by
  rw [evFn_eq2 (cx := cx0) (c := c_r01_Get16) rfl Try.func25 c_r01_Get16_eq (of_decide_eq_true (by kernel_rfl)) d_r01_Get16 (of_decide_eq_true (by kernel_rfl))]
  exact congrArg (fin Try.prog [.tmp 4, .tmp 5]) (F_r01_Get16_eq (evFn cx0 ext0 n) n bx.length a0 a1 bx)

/-- scupper/num.Get32 -/
def kp_num_Get32 : Option (List Nat) := some [0, 1, 4, 5]
noncomputable def c_num_Get32 : Code := Try.f26.body.getD .skip
noncomputable def F_num_Get32 (E : FnA) (_n _n0 : Nat) (a0 a1 : AV) (bx : Bx) : Option (Ex × S) :=
  (callA E md0 bx 32 [a0, a1, (.v (Go.Value.int Go.IntKind.i64 4))]).bind fun r1 =>
  (pv r1.2 (tupA r1.1 0)).bind fun r2 =>
  (pv r2.2 (tupA r1.1 1)).bind fun r3 =>
  some (.ret, ⟨[(5, r3.1), (4, r2.1), (5, (.v (Go.Value.int Go.IntKind.i64 0))), (4, (.v (Go.Value.int Go.IntKind.u32 0))), (0, a0), (1, a1)], r3.2⟩)
theorem c_num_Get32_eq : Try.f26.body = some c_num_Get32 := by kernel_rfl
theorem d_num_Get32 : drawsOk Try.prog md0 c_num_Get32 = true := by kernel_rfl
theorem F_num_Get32_eq (E : FnA) (n n0 : Nat) (a0 a1 : AV) (bx : Bx) : evK Try.prog md0 E 11 kp_num_Get32 n n0 c_num_Get32 ⟨[(0, a0), (1, a1)], bx⟩ (fun s => some (.normal, s)) (fun i s => some (.exit i, s)) = F_num_Get32 E n n0 a0 a1 bx := by kernel_rfl

theorem E_num_Get32 (n : Nat) (a0 a1 : AV) (bx : Bx) : evFn cx0 ext0 (n + 1) 26 [a0, a1] bx = fin Try.prog [.tmp 4, .tmp 5] (F_num_Get32 (evFn cx0 ext0 n) n bx.length a0 a1 bx) := by
  rw [evFn_eq2 (cx := cx0) (c := c_num_Get32) rfl Try.func26 c_num_Get32_eq (of_decide_eq_true (by kernel_rfl)) d_num_Get32 (of_decide_eq_true (by kernel_rfl))]
  exact congrArg (fin Try.prog [.tmp 4, .tmp 5]) (F_num_Get32_eq (evFn cx0 ext0 n) n bx.length a0 a1 bx)

/-- scupper/scupperref01.Get32 -/
def kp_r01_Get32 : Option (List Nat) := some [0, 1, 4, 5, 6, 7]
noncomputable def c_r01_Get32 : Code := Try.f27.body.getD .skip
noncomputable def F_r01_Get32 (E : FnA) (_n _n0 : Nat) (a0 a1 : AV) (bx : Bx) : Option (Ex × S) :=
  (callA E md0 bx 33 [a0, a1, (.v (Go.Value.int Go.IntKind.i64 4))]).bind fun r1 =>
  (pv r1.2 (tupA r1.1 0)).bind fun r2 =>
  (pv r2.2 (tupA r1.1 1)).bind fun r3 =>
  (convA Try.prog r3.2 55 36 r2.1).bind fun r4 =>
  some (.ret, ⟨[(5, r3.1), (4, r4.1), (7, r3.1), (6, r2.1), (5, (.v (Go.Value.int Go.IntKind.i64 0))), (4, (.v (Go.Value.int Go.IntKind.u32 0))), (0, a0), (1, a1)], r4.2⟩)
theorem c_r01_Get32_eq : Try.f27.body = some c_r01_Get32 := by kernel_rfl
theorem d_r01_Get32 : drawsOk Try.prog md0 c_r01_Get32 = true := by kernel_rfl
theorem F_r01_Get32_eq (E : FnA) (n n0 : Nat) (a0 a1 : AV) (bx : Bx) : evK Try.prog md0 E 17 kp_r01_Get32 n n0 c_r01_Get32 ⟨[(0, a0), (1, a1)], bx⟩ (fun s => some (.normal, s)) (fun i s => some (.exit i, s)) = F_r01_Get32 E n n0 a0 a1 bx := by kernel_rfl

theorem E_r01_Get32 (n : Nat) (a0 a1 : AV) (bx : Bx) : evFn cx0 ext0 (n + 1) 27 [a0, a1] bx = fin Try.prog [.tmp 4, .tmp 5] (F_r01_Get32 (evFn cx0 ext0 n) n bx.length a0 a1 bx) := by
  rw [evFn_eq2 (cx := cx0) (c := c_r01_Get32) rfl Try.func27 c_r01_Get32_eq (of_decide_eq_true (by kernel_rfl)) d_r01_Get32 (of_decide_eq_true (by kernel_rfl))]
  exact congrArg (fin Try.prog [.tmp 4, .tmp 5]) (F_r01_Get32_eq (evFn cx0 ext0 n) n bx.length a0 a1 bx)

/-- scupper/num.bit -/
def kp_num_bit : Option (List Nat) := some [0, 1, 4, 5, 6, 15]
noncomputable def c_num_bit : Code := Try.f28.body.getD .skip
noncomputable def F_num_bit (_E : FnA) (_n _n0 : Nat) (a0 a1 : AV) (bx : Bx) : Option (Ex × S) :=
  (pv bx (binA Try.prog .lss 3 a1 (.v (Go.Value.int Go.IntKind.i64 0)))).bind fun r1 =>
  (gsel false r1.2 (some (a1, r1.2)) r1.1).bind fun r2 =>
  (gsel false r2.2 (pv r2.2 (binA Try.prog .quo 3 r2.1 (.v (Go.Value.int Go.IntKind.i64 8)))) r1.1).bind fun r3 =>
  (gsel false r3.2 (some (a0, r3.2)) r1.1).bind fun r4 =>
  (gsel false r4.2 (pv r4.2 (lenA Try.prog 22 r4.1)) r1.1).bind fun r5 =>
  (gsel false r5.2 (pv r5.2 (binA Try.prog .geq 3 r3.1 r5.1)) r1.1).bind fun r6 =>
  (pv r6.2 (pickA r1.1 (.v (Go.Value.bool true)) r6.1)).bind fun r7 =>
  condA r7.1 (some (.ret, ⟨[(6, (.v (Go.Value.int Go.IntKind.i64 2))), (5, (.v (Go.Value.int Go.IntKind.u8 0))), (4, (.v (Go.Value.int Go.IntKind.i64 0))), (15, r7.1), (6, (.v (Go.Value.int Go.IntKind.i64 0))), (5, (.v (Go.Value.int Go.IntKind.u8 0))), (4, (.v (Go.Value.int Go.IntKind.i64 0))), (0, a0), (1, a1)], r7.2⟩)) ((pv r7.2 (binA Try.prog .quo 3 a1 (.v (Go.Value.int Go.IntKind.i64 8)))).bind fun r8 =>
  (pv r8.2 (binA Try.prog .rem 3 a1 (.v (Go.Value.int Go.IntKind.i64 8)))).bind fun r9 =>
  (pv r9.2 (binA Try.prog .shl 5 (.v (Go.Value.int Go.IntKind.u8 1)) r9.1)).bind fun r10 =>
  some (.ret, ⟨[(6, (.v (Go.Value.int Go.IntKind.i64 0))), (5, r10.1), (4, r8.1), (15, r7.1), (6, (.v (Go.Value.int Go.IntKind.i64 0))), (5, (.v (Go.Value.int Go.IntKind.u8 0))), (4, (.v (Go.Value.int Go.IntKind.i64 0))), (0, a0), (1, a1)], r10.2⟩))
theorem c_num_bit_eq : Try.f28.body = some c_num_bit := by kernel_rfl
theorem d_num_bit : drawsOk Try.prog md0 c_num_bit = true := by kernel_rfl
theorem F_num_bit_eq (E : FnA) (n n0 : Nat) (a0 a1 : AV) (bx : Bx) : evK Try.prog md0 E 21 kp_num_bit n n0 c_num_bit ⟨[(0, a0), (1, a1)], bx⟩ (fun s => some (.normal, s)) (fun i s => some (.exit i, s)) = F_num_bit E n n0 a0 a1 bx := by kernel_rfl

theorem E_num_bit (n : Nat) (a0 a1 : AV) (bx : Bx) : evFn cx0 ext0 (n + 1) 28 [a0, a1] bx = fin Try.prog [.tmp 4, .tmp 5, .tmp 6] (F_num_bit (evFn cx0 ext0 n) n bx.length a0 a1 bx) := by
  rw [evFn_eq2 (cx := cx0) (c := c_num_bit) rfl Try.func28 c_num_bit_eq (of_decide_eq_true (by kernel_rfl)) d_num_bit (of_decide_eq_true (by kernel_rfl))]
  exact congrArg (fin Try.prog [.tmp 4, .tmp 5, .tmp 6]) (F_num_bit_eq (evFn cx0 ext0 n) n bx.length a0 a1 bx)

/-- scupper/scupperref01.power -/
def kp_r01_power : Option (List Nat) := some [0, 2, 3, 4, 7]
noncomputable def c_r01_power : Code := Try.f29.body.getD .skip
noncomputable def L_r01_power_0 (_E : FnA) (_n _n0 : Nat) (s : S) : Option (Ex × S) :=
  (pv s.bx (binA Try.prog .lss 3 (get s.env 4) (get s.env 0))).bind fun r4 =>
  condA r4.1 ((pv r4.2 (binA Try.prog .mul 3 (.v (Go.Value.int Go.IntKind.i64 2)) (get (prune kp_r01_power s.env) 3))).bind fun r5 =>
  (pv r5.2 (binA Try.prog .add 3 (get (prune kp_r01_power (prune kp_r01_power s.env)) 4) (.v (Go.Value.int Go.IntKind.i64 1)))).bind fun r6 =>
  some (.normal, ⟨((4, r6.1) :: (3, r5.1) :: (7, r4.1) :: (prune kp_r01_power (prune kp_r01_power (prune kp_r01_power s.env)))), r6.2⟩)) (some (.exit 0, ⟨((7, r4.1) :: (prune kp_r01_power s.env)), r4.2⟩))
noncomputable def B_r01_power_0 (_E : FnA) (_n _n0 : Nat) (x4 x3 x2 x0 : AV) (y : Bx) : Option (Ex × S) :=
  (pv y (binA Try.prog .lss 3 x4 x0)).bind fun r1 =>
  condA r1.1 ((pv r1.2 (binA Try.prog .mul 3 (.v (Go.Value.int Go.IntKind.i64 2)) x3)).bind fun r2 =>
  (pv r2.2 (binA Try.prog .add 3 x4 (.v (Go.Value.int Go.IntKind.i64 1)))).bind fun r3 =>
  some (.normal, ⟨[(4, r3.1), (3, r2.1), (7, r1.1), (4, x4), (3, x3), (2, x2), (0, x0)], r3.2⟩)) (some (.exit 0, ⟨[(7, r1.1), (4, x4), (3, x3), (2, x2), (0, x0)], r1.2⟩))
theorem L_r01_power_0_lit {E : FnA} {n n0 : Nat} {x4 x3 x2 x0 : AV} {y : Bx} {Q : Ex → S → Prop} (h : Ends (B_r01_power_0 E n n0 x4 x3 x2 x0 y) Q) : Ends (L_r01_power_0 E n n0 ⟨[(4, x4), (3, x3), (2, x2), (0, x0)], y⟩) Q := by
  rw [show L_r01_power_0 E n n0 ⟨[(4, x4), (3, x3), (2, x2), (0, x0)], y⟩ = B_r01_power_0 E n n0 x4 x3 x2 x0 y by kernel_rfl]
  exact h
noncomputable def K_r01_power_0 (_E : FnA) (_n _n0 : Nat) (t : S) : Option (Ex × S) :=
  some (.ret, ⟨((2, (get t.env 3)) :: (prune kp_r01_power t.env)), t.bx⟩)
noncomputable def X_r01_power_0 (_E : FnA) (_n _n0 : Nat) (i : Nat) (t : S) : Option (Ex × S) :=
  if i = 0 then some (.ret, ⟨((2, (get t.env 3)) :: (prune kp_r01_power t.env)), t.bx⟩) else some (.exit i, ⟨t.env, t.bx⟩)
noncomputable def X_r01_power_0_0 (_E : FnA) (_n _n0 : Nat) (x7 x4 x3 x2 x0 : AV) (y : Bx) : Option (Ex × S) :=
  some (.ret, ⟨[(2, x3), (7, x7), (4, x4), (3, x3), (2, x2), (0, x0)], y⟩)
theorem X_r01_power_0_0_lit {E : FnA} {n n0 : Nat} {x7 x4 x3 x2 x0 : AV} {y : Bx} {Q : Ex → S → Prop} (h : Ends (X_r01_power_0_0 E n n0 x7 x4 x3 x2 x0 y) Q) : Ends (X_r01_power_0 E n n0 0 ⟨[(7, x7), (4, x4), (3, x3), (2, x2), (0, x0)], y⟩) Q := by
  rw [show X_r01_power_0 E n n0 0 ⟨[(7, x7), (4, x4), (3, x3), (2, x2), (0, x0)], y⟩ = X_r01_power_0_0 E n n0 x7 x4 x3 x2 x0 y by kernel_rfl]
  exact h
noncomputable def F_r01_power (E : FnA) (n n0 : Nat) (a0 : AV) (bx : Bx) : Option (Ex × S) :=
  exitA (iter ⟨[(4, (.v (Go.Value.int Go.IntKind.i64 0))), (3, (.v (Go.Value.int Go.IntKind.i64 1))), (2, (.v (Go.Value.int Go.IntKind.i64 0))), (0, a0)], bx⟩ (L_r01_power_0 E n n0) n ⟨[(4, (.v (Go.Value.int Go.IntKind.i64 0))), (3, (.v (Go.Value.int Go.IntKind.i64 1))), (2, (.v (Go.Value.int Go.IntKind.i64 0))), (0, a0)], bx⟩) (K_r01_power_0 E n n0) (X_r01_power_0 E n n0)
theorem c_r01_power_eq : Try.f29.body = some c_r01_power := by kernel_rfl
theorem d_r01_power : drawsOk Try.prog md0 c_r01_power = true := by kernel_rfl
theorem F_r01_power_eq (E : FnA) (n n0 : Nat) (a0 : AV) (bx : Bx) : evK Try.prog md0 E 13 kp_r01_power n n0 c_r01_power ⟨[(0, a0)], bx⟩ (fun s => some (.normal, s)) (fun i s => some (.exit i, s)) = F_r01_power E n n0 a0 bx := by kernel_rfl

theorem E_r01_power (n : Nat) (a0 : AV) (bx : Bx) : evFn cx0 ext0 (n + 1) 29 [a0] bx = fin Try.prog [.tmp 2] (F_r01_power (evFn cx0 ext0 n) n bx.length a0 bx) := by
  rw [evFn_eq2 (cx := cx0) (c := c_r01_power) rfl Try.func29 c_r01_power_eq (of_decide_eq_true (by kernel_rfl)) d_r01_power (of_decide_eq_true (by kernel_rfl))]
  exact congrArg (fin Try.prog [.tmp 2]) (F_r01_power_eq (evFn cx0 ext0 n) n bx.length a0 bx)

/-- slices.Clone[[]byte,byte] -/
def kp_slices_Clone_byte_byte : Option (List Nat) := some [0, 2, 4]
noncomputable def c_slices_Clone_byte_byte : Code := Try.f30.body.getD .skip
noncomputable def F_slices_Clone_byte_byte (_E : FnA) (_n n0 : Nat) (a0 : AV) (bx : Bx) : Option (Ex × S) :=
  (some (AV.bsl (List.length bx) 0 0 0, bx ++ [[]])).bind fun r1 =>
  (pv r1.2 (binA Try.prog .eql 22 a0 (.v (Go.Value.slice none 0 0)))).bind fun r2 =>
  condA r2.1 ((some (AV.bsl (List.length r2.2) 0 0 0, r2.2 ++ [[]])).bind fun r3 =>
  some (.ret, ⟨[(2, r3.1), (4, r2.1), (2, r1.1), (0, a0)], r3.2⟩)) ((buildSliceA Try.prog r2.2 22 0 []).bind fun r4 =>
  (appA Try.prog n0 r4.2 22 r4.1 a0).bind fun r5 =>
  some (.ret, ⟨[(2, r5.1), (4, (r5.2.1 r2.1)), (2, (r5.2.1 r1.1)), (0, (r5.2.1 a0))], r5.2.2⟩))
theorem c_slices_Clone_byte_byte_eq : Try.f30.body = some c_slices_Clone_byte_byte := by kernel_rfl
theorem d_slices_Clone_byte_byte : drawsOk Try.prog md0 c_slices_Clone_byte_byte = true := by kernel_rfl
theorem F_slices_Clone_byte_byte_eq (E : FnA) (n n0 : Nat) (a0 : AV) (bx : Bx) : evK Try.prog md0 E 8 kp_slices_Clone_byte_byte n n0 c_slices_Clone_byte_byte ⟨[(0, a0)], bx⟩ (fun s => some (.normal, s)) (fun i s => some (.exit i, s)) = F_slices_Clone_byte_byte E n n0 a0 bx := by kernel_rfl

theorem E_slices_Clone_byte_byte (n : Nat) (a0 : AV) (bx : Bx) : evFn cx0 ext0 (n + 1) 30 [a0] bx = fin Try.prog [.tmp 2] (F_slices_Clone_byte_byte (evFn cx0 ext0 n) n bx.length a0 bx) := by
  rw [evFn_eq2 (cx := cx0) (c := c_slices_Clone_byte_byte) rfl Try.func30 c_slices_Clone_byte_byte_eq (of_decide_eq_true (by kernel_rfl)) d_slices_Clone_byte_byte (of_decide_eq_true (by kernel_rfl))]
  exact congrArg (fin Try.prog [.tmp 2]) (F_slices_Clone_byte_byte_eq (evFn cx0 ext0 n) n bx.length a0 bx)

/-- scupper/num.some -/
def kp_num_some : Option (List Nat) := some [0, 1, 4]
noncomputable def c_num_some : Code := Try.f31.body.getD .skip
noncomputable def F_num_some (_E : FnA) (_n _n0 : Nat) (a0 a1 : AV) (bx : Bx) : Option (Ex × S) :=
  (pv bx (lenA Try.prog 22 a0)).bind fun r1 =>
  (pv r1.2 (binA Try.prog .mul 3 (.v (Go.Value.int Go.IntKind.i64 8)) r1.1)).bind fun r2 =>
  (pv r2.2 (minL false a1 [r2.1])).bind fun r3 =>
  (pv r3.2 (minL true (.v (Go.Value.int Go.IntKind.i64 0)) [r3.1])).bind fun r4 =>
  some (.ret, ⟨[(4, r4.1), (4, (.v (Go.Value.int Go.IntKind.i64 0))), (0, a0), (1, a1)], r4.2⟩)
theorem c_num_some_eq : Try.f31.body = some c_num_some := by kernel_rfl
theorem d_num_some : drawsOk Try.prog md0 c_num_some = true := by kernel_rfl
theorem F_num_some_eq (E : FnA) (n n0 : Nat) (a0 a1 : AV) (bx : Bx) : evK Try.prog md0 E 11 kp_num_some n n0 c_num_some ⟨[(0, a0), (1, a1)], bx⟩ (fun s => some (.normal, s)) (fun i s => some (.exit i, s)) = F_num_some E n n0 a0 a1 bx := by kernel_rfl

theorem E_num_some (n : Nat) (a0 a1 : AV) (bx : Bx) : evFn cx0 ext0 (n + 1) 31 [a0, a1] bx = fin Try.prog [.tmp 4] (F_num_some (evFn cx0 ext0 n) n bx.length a0 a1 bx) := by
  rw [evFn_eq2 (cx := cx0) (c := c_num_some) rfl Try.func31 c_num_some_eq (of_decide_eq_true (by kernel_rfl)) d_num_some (of_decide_eq_true (by kernel_rfl))]
  exact congrArg (fin Try.prog [.tmp 4]) (F_num_some_eq (evFn cx0 ext0 n) n bx.length a0 a1 bx)

/-- scupper/num.get -/
def kp_num_get : Option (List Nat) := some [0, 1, 2, 6, 7, 8, 9, 25, 26, 27, 28]
noncomputable def c_num_get : Code := Try.f32.body.getD .skip
noncomputable def L_num_get_0 (_E : FnA) (_n _n0 : Nat) (s : S) : Option (Ex × S) :=
  (pv s.bx (binA Try.prog .lss 3 (get s.env 27) (get s.env 26))).bind fun r23 =>
  condA r23.1 ((pv r23.2 (binA Try.prog .add 3 (get (prune kp_num_get (prune kp_num_get s.env)) 1) (get (prune kp_num_get s.env) 27))).bind fun r24 =>
  (pv r24.2 (indexAddrA Try.prog 22 (get (prune kp_num_get (prune kp_num_get s.env)) 0) r24.1)).bind fun r25 =>
  (pv r25.2 (loadA Try.prog 5 r25.2 r25.1)).bind fun r26 =>
  (convA Try.prog r26.2 5 36 r26.1).bind fun r27 =>
  (pv r27.2 (binA Try.prog .mul 3 (.v (Go.Value.int Go.IntKind.i64 8)) (get (prune kp_num_get s.env) 27))).bind fun r28 =>
  (pv r28.2 (binA Try.prog .shl 36 r27.1 r28.1)).bind fun r29 =>
  (pv r29.2 (binA Try.prog .or 36 (get (prune kp_num_get (prune kp_num_get s.env)) 8) r29.1)).bind fun r30 =>
  (pv r30.2 (binA Try.prog .add 3 (get (prune kp_num_get (prune kp_num_get (prune kp_num_get s.env))) 27) (.v (Go.Value.int Go.IntKind.i64 1)))).bind fun r31 =>
  some (.normal, ⟨((27, r31.1) :: (8, r30.1) :: (9, (get (prune kp_num_get s.env) 27)) :: (28, r23.1) :: (prune kp_num_get (prune kp_num_get (prune kp_num_get (prune kp_num_get s.env))))), r31.2⟩)) (some (.exit 0, ⟨((28, r23.1) :: (prune kp_num_get s.env)), r23.2⟩))
noncomputable def B_num_get_0 (_E : FnA) (_n _n0 : Nat) (x27 x26 x8 x25 x7 x6 x0 x1 x2 : AV) (y : Bx) : Option (Ex × S) :=
  (pv y (binA Try.prog .lss 3 x27 x26)).bind fun r14 =>
  condA r14.1 ((pv r14.2 (binA Try.prog .add 3 x1 x27)).bind fun r15 =>
  (pv r15.2 (indexAddrA Try.prog 22 x0 r15.1)).bind fun r16 =>
  (pv r16.2 (loadA Try.prog 5 r16.2 r16.1)).bind fun r17 =>
  (convA Try.prog r17.2 5 36 r17.1).bind fun r18 =>
  (pv r18.2 (binA Try.prog .mul 3 (.v (Go.Value.int Go.IntKind.i64 8)) x27)).bind fun r19 =>
  (pv r19.2 (binA Try.prog .shl 36 r18.1 r19.1)).bind fun r20 =>
  (pv r20.2 (binA Try.prog .or 36 x8 r20.1)).bind fun r21 =>
  (pv r21.2 (binA Try.prog .add 3 x27 (.v (Go.Value.int Go.IntKind.i64 1)))).bind fun r22 =>
  some (.normal, ⟨[(27, r22.1), (8, r21.1), (9, x27), (28, r14.1), (27, x27), (26, x26), (8, x8), (25, x25), (7, x7), (6, x6), (0, x0), (1, x1), (2, x2)], r22.2⟩)) (some (.exit 0, ⟨[(28, r14.1), (27, x27), (26, x26), (8, x8), (25, x25), (7, x7), (6, x6), (0, x0), (1, x1), (2, x2)], r14.2⟩))
theorem L_num_get_0_lit {E : FnA} {n n0 : Nat} {x27 x26 x8 x25 x7 x6 x0 x1 x2 : AV} {y : Bx} {Q : Ex → S → Prop} (h : Ends (B_num_get_0 E n n0 x27 x26 x8 x25 x7 x6 x0 x1 x2 y) Q) : Ends (L_num_get_0 E n n0 ⟨[(27, x27), (26, x26), (8, x8), (25, x25), (7, x7), (6, x6), (0, x0), (1, x1), (2, x2)], y⟩) Q := by
  rw [show L_num_get_0 E n n0 ⟨[(27, x27), (26, x26), (8, x8), (25, x25), (7, x7), (6, x6), (0, x0), (1, x1), (2, x2)], y⟩ = B_num_get_0 E n n0 x27 x26 x8 x25 x7 x6 x0 x1 x2 y by kernel_rfl]
  exact h
noncomputable def K_num_get_0 (_E : FnA) (_n _n0 : Nat) (t : S) : Option (Ex × S) :=
  some (.ret, ⟨((7, (.v (Go.Value.int Go.IntKind.i64 0))) :: (6, (get t.env 8)) :: (prune kp_num_get t.env)), t.bx⟩)
noncomputable def X_num_get_0 (_E : FnA) (_n _n0 : Nat) (i : Nat) (t : S) : Option (Ex × S) :=
  if i = 0 then some (.ret, ⟨((7, (.v (Go.Value.int Go.IntKind.i64 0))) :: (6, (get t.env 8)) :: (prune kp_num_get t.env)), t.bx⟩) else some (.exit i, ⟨t.env, t.bx⟩)
noncomputable def X_num_get_0_0 (_E : FnA) (_n _n0 : Nat) (x28 x27 x26 x8 x25 x7 x6 x0 x1 x2 : AV) (y : Bx) : Option (Ex × S) :=
  some (.ret, ⟨[(7, (.v (Go.Value.int Go.IntKind.i64 0))), (6, x8), (28, x28), (27, x27), (26, x26), (8, x8), (25, x25), (7, x7), (6, x6), (0, x0), (1, x1), (2, x2)], y⟩)
theorem X_num_get_0_0_lit {E : FnA} {n n0 : Nat} {x28 x27 x26 x8 x25 x7 x6 x0 x1 x2 : AV} {y : Bx} {Q : Ex → S → Prop} (h : Ends (X_num_get_0_0 E n n0 x28 x27 x26 x8 x25 x7 x6 x0 x1 x2 y) Q) : Ends (X_num_get_0 E n n0 0 ⟨[(28, x28), (27, x27), (26, x26), (8, x8), (25, x25), (7, x7), (6, x6), (0, x0), (1, x1), (2, x2)], y⟩) Q := by
  rw [show X_num_get_0 E n n0 0 ⟨[(28, x28), (27, x27), (26, x26), (8, x8), (25, x25), (7, x7), (6, x6), (0, x0), (1, x1), (2, x2)], y⟩ = X_num_get_0_0 E n n0 x28 x27 x26 x8 x25 x7 x6 x0 x1 x2 y by kernel_rfl]
  exact h
noncomputable def F_num_get (E : FnA) (n n0 : Nat) (a0 a1 a2 : AV) (bx : Bx) : Option (Ex × S) :=
  (pv bx (binA Try.prog .lss 3 a1 (.v (Go.Value.int Go.IntKind.i64 0)))).bind fun r1 =>
  (gsel false r1.2 (some (a1, r1.2)) r1.1).bind fun r2 =>
  (gsel false r2.2 (some (a0, r2.2)) r1.1).bind fun r3 =>
  (gsel false r3.2 (pv r3.2 (lenA Try.prog 22 r3.1)) r1.1).bind fun r4 =>
  (gsel false r4.2 (pv r4.2 (binA Try.prog .gtr 3 r2.1 r4.1)) r1.1).bind fun r5 =>
  (pv r5.2 (pickA r1.1 (.v (Go.Value.bool true)) r5.1)).bind fun r6 =>
  (gsel false r6.2 (some (a0, r6.2)) r6.1).bind fun r7 =>
  (gsel false r7.2 (pv r7.2 (lenA Try.prog 22 r7.1)) r6.1).bind fun r8 =>
  (gsel false r8.2 (some (a1, r8.2)) r6.1).bind fun r9 =>
  (gsel false r9.2 (pv r9.2 (binA Try.prog .sub 3 r8.1 r9.1)) r6.1).bind fun r10 =>
  (gsel false r10.2 (some (a2, r10.2)) r6.1).bind fun r11 =>
  (gsel false r11.2 (pv r11.2 (binA Try.prog .lss 3 r10.1 r11.1)) r6.1).bind fun r12 =>
  (pv r12.2 (pickA r6.1 (.v (Go.Value.bool true)) r12.1)).bind fun r13 =>
  condA r13.1 (some (.ret, ⟨[(7, (.v (Go.Value.int Go.IntKind.i64 7))), (6, (.v (Go.Value.int Go.IntKind.u32 0))), (25, r13.1), (7, (.v (Go.Value.int Go.IntKind.i64 0))), (6, (.v (Go.Value.int Go.IntKind.u32 0))), (0, a0), (1, a1), (2, a2)], r13.2⟩)) (exitA (iter ⟨[(27, (.v (Go.Value.int Go.IntKind.i64 0))), (26, a2), (8, (.v (Go.Value.int Go.IntKind.u32 0))), (25, r13.1), (7, (.v (Go.Value.int Go.IntKind.i64 0))), (6, (.v (Go.Value.int Go.IntKind.u32 0))), (0, a0), (1, a1), (2, a2)], r13.2⟩ (L_num_get_0 E n n0) n ⟨[(27, (.v (Go.Value.int Go.IntKind.i64 0))), (26, a2), (8, (.v (Go.Value.int Go.IntKind.u32 0))), (25, r13.1), (7, (.v (Go.Value.int Go.IntKind.i64 0))), (6, (.v (Go.Value.int Go.IntKind.u32 0))), (0, a0), (1, a1), (2, a2)], r13.2⟩) (K_num_get_0 E n n0) (X_num_get_0 E n n0))
theorem c_num_get_eq : Try.f32.body = some c_num_get := by kernel_rfl
theorem d_num_get : drawsOk Try.prog md0 c_num_get = true := by kernel_rfl
theorem F_num_get_eq (E : FnA) (n n0 : Nat) (a0 a1 a2 : AV) (bx : Bx) : evK Try.prog md0 E 44 kp_num_get n n0 c_num_get ⟨[(0, a0), (1, a1), (2, a2)], bx⟩ (fun s => some (.normal, s)) (fun i s => some (.exit i, s)) = F_num_get E n n0 a0 a1 a2 bx := by kernel_rfl

theorem E_num_get (n : Nat) (a0 a1 a2 : AV) (bx : Bx) : evFn cx0 ext0 (n + 1) 32 [a0, a1, a2] bx = fin Try.prog [.tmp 6, .tmp 7] (F_num_get (evFn cx0 ext0 n) n bx.length a0 a1 a2 bx) := by
  rw [evFn_eq2 (cx := cx0) (c := c_num_get) rfl Try.func32 c_num_get_eq (of_decide_eq_true (by kernel_rfl)) d_num_get (of_decide_eq_true (by kernel_rfl))]
  exact congrArg (fin Try.prog [.tmp 6, .tmp 7]) (F_num_get_eq (evFn cx0 ext0 n) n bx.length a0 a1 a2 bx)

/-- scupper/scupperref01.number -/
def kp_r01_number : Option (List Nat) := some [0, 1, 2, 6, 7, 8, 9, 25, 29]
noncomputable def c_r01_number : Code := Try.f33.body.getD .skip
noncomputable def L_r01_number_0 (_E : FnA) (_n _n0 : Nat) (s : S) : Option (Ex × S) :=
  (pv s.bx (binA Try.prog .geq 3 (get s.env 9) (.v (Go.Value.int Go.IntKind.i64 0)))).bind fun r23 =>
  condA r23.1 ((pv r23.2 (binA Try.prog .mul 55 (.v (Go.Value.int Go.IntKind.u64 256)) (get (prune kp_r01_number s.env) 8))).bind fun r24 =>
  (pv r24.2 (binA Try.prog .add 3 (get (prune kp_r01_number s.env) 1) (get (prune kp_r01_number s.env) 9))).bind fun r25 =>
  (pv r25.2 (indexAddrA Try.prog 22 (get (prune kp_r01_number s.env) 0) r25.1)).bind fun r26 =>
  (pv r26.2 (loadA Try.prog 5 r26.2 r26.1)).bind fun r27 =>
  (convA Try.prog r27.2 5 55 r27.1).bind fun r28 =>
  (pv r28.2 (binA Try.prog .add 55 r24.1 r28.1)).bind fun r29 =>
  (pv r29.2 (binA Try.prog .sub 3 (get (prune kp_r01_number (prune kp_r01_number s.env)) 9) (.v (Go.Value.int Go.IntKind.i64 1)))).bind fun r30 =>
  some (.normal, ⟨((9, r30.1) :: (8, r29.1) :: (29, r23.1) :: (prune kp_r01_number (prune kp_r01_number (prune kp_r01_number s.env)))), r30.2⟩)) (some (.exit 0, ⟨((29, r23.1) :: (prune kp_r01_number s.env)), r23.2⟩))
noncomputable def B_r01_number_0 (_E : FnA) (_n _n0 : Nat) (x9 x8 x25 x7 x6 x0 x1 x2 : AV) (y : Bx) : Option (Ex × S) :=
  (pv y (binA Try.prog .geq 3 x9 (.v (Go.Value.int Go.IntKind.i64 0)))).bind fun r15 =>
  condA r15.1 ((pv r15.2 (binA Try.prog .mul 55 (.v (Go.Value.int Go.IntKind.u64 256)) x8)).bind fun r16 =>
  (pv r16.2 (binA Try.prog .add 3 x1 x9)).bind fun r17 =>
  (pv r17.2 (indexAddrA Try.prog 22 x0 r17.1)).bind fun r18 =>
  (pv r18.2 (loadA Try.prog 5 r18.2 r18.1)).bind fun r19 =>
  (convA Try.prog r19.2 5 55 r19.1).bind fun r20 =>
  (pv r20.2 (binA Try.prog .add 55 r16.1 r20.1)).bind fun r21 =>
  (pv r21.2 (binA Try.prog .sub 3 x9 (.v (Go.Value.int Go.IntKind.i64 1)))).bind fun r22 =>
  some (.normal, ⟨[(9, r22.1), (8, r21.1), (29, r15.1), (9, x9), (8, x8), (25, x25), (7, x7), (6, x6), (0, x0), (1, x1), (2, x2)], r22.2⟩)) (some (.exit 0, ⟨[(29, r15.1), (9, x9), (8, x8), (25, x25), (7, x7), (6, x6), (0, x0), (1, x1), (2, x2)], r15.2⟩))
theorem L_r01_number_0_lit {E : FnA} {n n0 : Nat} {x9 x8 x25 x7 x6 x0 x1 x2 : AV} {y : Bx} {Q : Ex → S → Prop} (h : Ends (B_r01_number_0 E n n0 x9 x8 x25 x7 x6 x0 x1 x2 y) Q) : Ends (L_r01_number_0 E n n0 ⟨[(9, x9), (8, x8), (25, x25), (7, x7), (6, x6), (0, x0), (1, x1), (2, x2)], y⟩) Q := by
  rw [show L_r01_number_0 E n n0 ⟨[(9, x9), (8, x8), (25, x25), (7, x7), (6, x6), (0, x0), (1, x1), (2, x2)], y⟩ = B_r01_number_0 E n n0 x9 x8 x25 x7 x6 x0 x1 x2 y by kernel_rfl]
  exact h
noncomputable def K_r01_number_0 (_E : FnA) (_n _n0 : Nat) (t : S) : Option (Ex × S) :=
  some (.ret, ⟨((7, (.v (Go.Value.int Go.IntKind.i64 0))) :: (6, (get t.env 8)) :: (prune kp_r01_number t.env)), t.bx⟩)
noncomputable def X_r01_number_0 (_E : FnA) (_n _n0 : Nat) (i : Nat) (t : S) : Option (Ex × S) :=
  if i = 0 then some (.ret, ⟨((7, (.v (Go.Value.int Go.IntKind.i64 0))) :: (6, (get t.env 8)) :: (prune kp_r01_number t.env)), t.bx⟩) else some (.exit i, ⟨t.env, t.bx⟩)
noncomputable def X_r01_number_0_0 (_E : FnA) (_n _n0 : Nat) (x29 x9 x8 x25 x7 x6 x0 x1 x2 : AV) (y : Bx) : Option (Ex × S) :=
  some (.ret, ⟨[(7, (.v (Go.Value.int Go.IntKind.i64 0))), (6, x8), (29, x29), (9, x9), (8, x8), (25, x25), (7, x7), (6, x6), (0, x0), (1, x1), (2, x2)], y⟩)
theorem X_r01_number_0_0_lit {E : FnA} {n n0 : Nat} {x29 x9 x8 x25 x7 x6 x0 x1 x2 : AV} {y : Bx} {Q : Ex → S → Prop} (h : Ends (X_r01_number_0_0 E n n0 x29 x9 x8 x25 x7 x6 x0 x1 x2 y) Q) : Ends (X_r01_number_0 E n n0 0 ⟨[(29, x29), (9, x9), (8, x8), (25, x25), (7, x7), (6, x6), (0, x0), (1, x1), (2, x2)], y⟩) Q := by
  rw [show X_r01_number_0 E n n0 0 ⟨[(29, x29), (9, x9), (8, x8), (25, x25), (7, x7), (6, x6), (0, x0), (1, x1), (2, x2)], y⟩ = X_r01_number_0_0 E n n0 x29 x9 x8 x25 x7 x6 x0 x1 x2 y by kernel_rfl]
  exact h
noncomputable def F_r01_number (E : FnA) (n n0 : Nat) (a0 a1 a2 : AV) (bx : Bx) : Option (Ex × S) :=
  (pv bx (binA Try.prog .lss 3 a1 (.v (Go.Value.int Go.IntKind.i64 0)))).bind fun r1 =>
  (gsel false r1.2 (some (a1, r1.2)) r1.1).bind fun r2 =>
  (gsel false r2.2 (some (a0, r2.2)) r1.1).bind fun r3 =>
  (gsel false r3.2 (pv r3.2 (lenA Try.prog 22 r3.1)) r1.1).bind fun r4 =>
  (gsel false r4.2 (pv r4.2 (binA Try.prog .gtr 3 r2.1 r4.1)) r1.1).bind fun r5 =>
  (pv r5.2 (pickA r1.1 (.v (Go.Value.bool true)) r5.1)).bind fun r6 =>
  (gsel false r6.2 (some (a0, r6.2)) r6.1).bind fun r7 =>
  (gsel false r7.2 (pv r7.2 (lenA Try.prog 22 r7.1)) r6.1).bind fun r8 =>
  (gsel false r8.2 (some (a1, r8.2)) r6.1).bind fun r9 =>
  (gsel false r9.2 (pv r9.2 (binA Try.prog .sub 3 r8.1 r9.1)) r6.1).bind fun r10 =>
  (gsel false r10.2 (some (a2, r10.2)) r6.1).bind fun r11 =>
  (gsel false r11.2 (pv r11.2 (binA Try.prog .lss 3 r10.1 r11.1)) r6.1).bind fun r12 =>
  (pv r12.2 (pickA r6.1 (.v (Go.Value.bool true)) r12.1)).bind fun r13 =>
  condA r13.1 (some (.ret, ⟨[(7, (.v (Go.Value.int Go.IntKind.i64 7))), (6, (.v (Go.Value.int Go.IntKind.u64 0))), (25, r13.1), (7, (.v (Go.Value.int Go.IntKind.i64 0))), (6, (.v (Go.Value.int Go.IntKind.u64 0))), (0, a0), (1, a1), (2, a2)], r13.2⟩)) ((pv r13.2 (binA Try.prog .sub 3 a2 (.v (Go.Value.int Go.IntKind.i64 1)))).bind fun r14 =>
  exitA (iter ⟨[(9, r14.1), (8, (.v (Go.Value.int Go.IntKind.u64 0))), (25, r13.1), (7, (.v (Go.Value.int Go.IntKind.i64 0))), (6, (.v (Go.Value.int Go.IntKind.u64 0))), (0, a0), (1, a1), (2, a2)], r14.2⟩ (L_r01_number_0 E n n0) n ⟨[(9, r14.1), (8, (.v (Go.Value.int Go.IntKind.u64 0))), (25, r13.1), (7, (.v (Go.Value.int Go.IntKind.i64 0))), (6, (.v (Go.Value.int Go.IntKind.u64 0))), (0, a0), (1, a1), (2, a2)], r14.2⟩) (K_r01_number_0 E n n0) (X_r01_number_0 E n n0))
theorem c_r01_number_eq : Try.f33.body = some c_r01_number := by kernel_rfl
theorem d_r01_number : drawsOk Try.prog md0 c_r01_number = true := by kernel_rfl
theorem F_r01_number_eq (E : FnA) (n n0 : Nat) (a0 a1 a2 : AV) (bx : Bx) : evK Try.prog md0 E 43 kp_r01_number n n0 c_r01_number ⟨[(0, a0), (1, a1), (2, a2)], bx⟩ (fun s => some (.normal, s)) (fun i s => some (.exit i, s)) = F_r01_number E n n0 a0 a1 a2 bx := by kernel_rfl

theorem E_r01_number (n : Nat) (a0 a1 a2 : AV) (bx : Bx) : evFn cx0 ext0 (n + 1) 33 [a0, a1, a2] bx = fin Try.prog [.tmp 6, .tmp 7] (F_r01_number (evFn cx0 ext0 n) n bx.length a0 a1 a2 bx) := by
  rw [evFn_eq2 (cx := cx0) (c := c_r01_number) rfl Try.func33 c_r01_number_eq (of_decide_eq_true (by kernel_rfl)) d_r01_number (of_decide_eq_true (by kernel_rfl))]
  exact congrArg (fin Try.prog [.tmp 6, .tmp 7]) (F_r01_number_eq (evFn cx0 ext0 n) n bx.length a0 a1 a2 bx)

end Go.Sy
