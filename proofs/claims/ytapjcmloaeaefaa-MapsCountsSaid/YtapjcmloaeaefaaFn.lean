/-
  What the functions under this seat's laws read as, in the reader's words; no conditions.
-/
import Derived.Test.YtapjcmloaeaefaaSyStep
import Derived.Test.YtapjcmloaeaefaaProg
import Derived.KernelRfl
import Derived.Test.YtapjcmloaeaefaaPfClnS
namespace Go.Sy
open Go.Proofs
def kpT : FuncId → Option (List Nat)
  | 3 => some [0, 1, 2, 3, 4, 5, 8, 9, 10]
  | 4 => some [0, 1, 2, 3, 4, 8, 9, 10, 11, 13, 14, 15, 17, 19, 20, 21, 24, 25]
  | 5 => some [0, 1, 2, 4, 6, 7, 8, 9, 10]
  | 6 => some [0, 1, 2, 3, 4, 5, 10, 11, 12, 13, 14, 15, 16, 17, 18, 19, 20, 21, 22, 23, 24, 25, 26]
  | 7 => some [0, 1, 2, 3, 4, 5, 8, 9, 10, 11, 12]
  | 8 => some [0, 1, 2, 3, 4, 5, 8, 9, 14]
  | 9 => some [0, 1, 2, 3, 6, 7, 8, 9, 17]
  | 10 => some [0, 1, 2, 3, 4, 5, 8, 9, 10, 18, 29]
  | 11 => some [0, 1, 2, 3, 4]
  | 12 => some [0, 1, 4, 6]
  | 13 => some [0, 1, 2, 3, 4, 8, 9, 10, 11, 12, 20]
  | 14 => some [0, 1, 4, 5, 6, 7]
  | 15 => some [0, 2, 3, 4, 5, 11]
  | 16 => some [0, 2, 3, 4, 11]
  | 17 => some [0, 1, 2, 4, 5, 6]
  | 18 => some [0, 1, 2, 4, 5, 6]
  | 19 => some [0, 1, 2, 3, 6, 7, 8, 9, 17]
  | 20 => some [0, 1, 2, 3, 4, 8, 9, 10, 11, 12, 21]
  | 21 => some [0, 1, 4, 5, 6, 7, 15]
  | 22 => some [0, 1, 2, 3, 4, 5, 6]
  | 23 => some [0, 1, 2, 3, 4, 5]
  | 25 => some [0, 1, 2, 3, 4, 5, 6, 7, 11, 13, 42]
  | 26 => some [0, 1, 2, 4, 5, 9, 14]
  | 27 => some [0, 1, 2, 6, 7, 8, 16, 26]
  | 30 => some [0, 1, 4, 5, 6, 7, 8]
  | 31 => some [0, 1, 2, 4, 7, 9, 13]
  | 32 => some [0, 1, 2, 6, 7, 8, 9, 10, 11, 20, 31]
  | 33 => some [0, 2]
  | 34 => some [0, 1, 4, 5, 15, 26]
  | 35 => some [0, 1, 4, 5, 14]
  | 36 => some [0, 1, 2, 6, 7, 8, 9, 10, 18, 27, 43]
  | 37 => some [0, 1, 2, 4]
  | 38 => some [0, 1, 4, 5, 6, 9, 10, 11]
  | 39 => some [0, 1, 2, 3, 4, 6, 7, 8, 9, 15, 26]
  | 40 => some [0, 1, 2, 3, 27]
  | 42 => some [0, 1, 2, 30]
  | 43 => some [0, 1, 4]
  | 44 => some [0, 1, 4, 5, 6, 15]
  | 45 => some [0, 2, 4]
  | 46 => some [0, 2, 3, 4, 7]
  | 47 => some [0, 1, 2, 6]
  | _ => none
def md_num_With : FuncId → Md
  | 45 => .boxed
  | _ => .frozen
def mdT : FuncId → FuncId → Md
  | 32 => md_num_With
  | _ => md0
noncomputable def cx0 : Cx := { P := Try.prog, md := mdT, kp := kpT }
noncomputable def ext0 : FnA := extD
theorem ext0_ok (f : FuncId) (args : List AV) (bx : Bx) (r : AV) (bx' : Bx) (h : ext0 f args bx = some (r, bx')) : Sound cx0.P f args bx r bx' := extD_ok f args bx r bx' h
/-- scupper/scupperlaw09.MapsFirst -/
def kp_l09_MapsFirst : Option (List Nat) := some [0, 1, 2, 3, 4, 5, 8, 9, 10]
noncomputable def c_l09_MapsFirst : Code := Try.f3.body.getD .skip
noncomputable def F_l09_MapsFirst (E : FnA) (_n _n0 : Nat) (a0 a1 a2 a3 : AV) (bx : Bx) : Option (Ex × S) :=
  (boxA bx a0).bind fun r1 =>
  (boxA r1.2 a1).bind fun r2 =>
  (pv r2.2 (loadA Try.prog 23 r2.2 r1.1)).bind fun r3 =>
  (pv r3.2 (loadA Try.prog 25 r3.2 r2.1)).bind fun r4 =>
  (callA E md0 r4.2 8 [r3.1, r4.1, a2, a3]).bind fun r5 =>
  (pv r5.2 (loadA Try.prog 23 r5.2 r1.1)).bind fun r6 =>
  (pv r6.2 (minL true r5.1 [(.v (Go.Value.int Go.IntKind.i64 0))])).bind fun r7 =>
  (callA E md0 r7.2 9 [r6.1, a2, r7.1]).bind fun r8 =>
  (pv r8.2 (tupA r8.1 0)).bind fun r9 =>
  (pv r9.2 (tupA r8.1 1)).bind fun r10 =>
  (pv r10.2 (loadA Try.prog 23 r10.2 r1.1)).bind fun r11 =>
  (pv r11.2 (loadA Try.prog 25 r11.2 r2.1)).bind fun r12 =>
  (callA E md0 r12.2 10 [r11.1, r12.1, a2, a3]).bind fun r13 =>
  (pv r13.2 (binA Try.prog .eql 3 r5.1 r13.1)).bind fun r14 =>
  (gsel true r14.2 (some (r5.1, r14.2)) r14.1).bind fun r15 =>
  (gsel true r15.2 (pv r15.2 (binA Try.prog .lss 3 r15.1 (.v (Go.Value.int Go.IntKind.i64 0)))) r14.1).bind fun r16 =>
  (gsel true r16.2 (some (r16.1, r16.2)) r14.1).bind fun r17 =>
  (gsel false r17.2 (some (r9.1, r17.2)) r17.1).bind fun r18 =>
  (gsel false r18.2 (pv r18.2 (unA .not r18.1)) r17.1).bind fun r19 =>
  (gsel true r19.2 (pv r19.2 (pickA r17.1 (.v (Go.Value.bool true)) r19.1)) r14.1).bind fun r20 =>
  (pv r20.2 (pickA r14.1 r20.1 (.v (Go.Value.bool false)))).bind fun r21 =>
  (gsel true r21.2 (callA E md0 r21.2 11 []) r21.1).bind fun r22 =>
  (pv r22.2 (pickA r21.1 r22.1 (.v (Go.Value.bool false)))).bind fun r23 =>
  some (.ret, ⟨[(8, r23.1), (10, r9.1), (9, r5.1), (8, (.v (Go.Value.bool false))), (5, r2.1), (4, r1.1), (0, a0), (1, a1), (2, a2), (3, a3)], r23.2⟩)
theorem c_l09_MapsFirst_eq : Try.f3.body = some c_l09_MapsFirst := by kernel_rfl
theorem d_l09_MapsFirst : drawsOk Try.prog md0 c_l09_MapsFirst = true := by kernel_rfl
theorem F_l09_MapsFirst_eq (E : FnA) (n n0 : Nat) (a0 a1 a2 a3 : AV) (bx : Bx) : evK Try.prog md0 E 43 kp_l09_MapsFirst n n0 c_l09_MapsFirst ⟨[(0, a0), (1, a1), (2, a2), (3, a3)], bx⟩ (fun s => some (.normal, s)) (fun i s => some (.exit i, s)) = F_l09_MapsFirst E n n0 a0 a1 a2 a3 bx := by kernel_rfl

theorem E_l09_MapsFirst (n : Nat) (a0 a1 a2 a3 : AV) (bx : Bx) : evFn cx0 ext0 (n + 1) 3 [a0, a1, a2, a3] bx = fin Try.prog [.tmp 8] (F_l09_MapsFirst (evFn cx0 ext0 n) n bx.length a0 a1 a2 a3 bx) := by
  rw [evFn_eq2 (cx := cx0) (c := c_l09_MapsFirst) rfl Try.func3 c_l09_MapsFirst_eq (of_decide_eq_true (by kernel_rfl)) d_l09_MapsFirst (of_decide_eq_true (by kernel_rfl))]
  exact congrArg (fin Try.prog [.tmp 8]) (F_l09_MapsFirst_eq (evFn cx0 ext0 n) n bx.length a0 a1 a2 a3 bx)

/-- scupper/scupperlaw09.MapsOne -/
def kp_l09_MapsOne : Option (List Nat) := some [0, 1, 2, 3, 4, 8, 9, 10, 11, 13, 14, 15, 17, 19, 20, 21, 24, 25]
noncomputable def c_l09_MapsOne : Code := Try.f4.body.getD .skip
noncomputable def F_l09_MapsOne (E : FnA) (_n _n0 : Nat) (a0 a1 a2 a3 : AV) (bx : Bx) : Option (Ex × S) :=
  (boxA bx a0).bind fun r1 =>
  (callA E md0 r1.2 11 []).bind fun r2 =>
  (pv r2.2 (unA .not r2.1)).bind fun r3 =>
  condA r3.1 (some (.ret, ⟨[(8, (.v (Go.Value.bool false))), (24, r3.1), (8, (.v (Go.Value.bool false))), (4, r1.1), (0, a0), (1, a1), (2, a2), (3, a3)], r3.2⟩)) (condA a1 ((callA E md0 r3.2 12 [a2, (.v (Go.Value.int Go.IntKind.i64 24))]).bind fun r4 =>
  (callA E md0 r4.2 12 [a3, (.v (Go.Value.int Go.IntKind.i64 24))]).bind fun r5 =>
  (pv r5.2 (loadA Try.prog 23 r5.2 r1.1)).bind fun r6 =>
  (callA E md0 r6.2 9 [r6.1, (.v (Go.Value.int Go.IntKind.i64 4)), r4.1]).bind fun r7 =>
  (pv r7.2 (tupA r7.1 0)).bind fun r8 =>
  (pv r8.2 (tupA r7.1 1)).bind fun r9 =>
  (pv r9.2 (loadA Try.prog 23 r9.2 r1.1)).bind fun r10 =>
  (callA E md0 r10.2 13 [r10.1, (.v (Go.Value.int Go.IntKind.i64 4)), r4.1, (.v (Go.Value.bool true))]).bind fun r11 =>
  (pv r11.2 (tupA r11.1 0)).bind fun r12 =>
  (pv r12.2 (tupA r11.1 1)).bind fun r13 =>
  (allocA Try.prog r13.2 23).bind fun r14 =>
  (stA Try.prog 23 r14.2 r14.1 r12.1).bind fun r15 =>
  (pv r15.2 (loadA Try.prog 23 r15.2 r1.1)).bind fun r16 =>
  (callA E md0 r16.2 9 [r16.1, (.v (Go.Value.int Go.IntKind.i64 4)), r5.1]).bind fun r17 =>
  (pv r17.2 (tupA r17.1 0)).bind fun r18 =>
  (pv r18.2 (tupA r17.1 1)).bind fun r19 =>
  (pv r19.2 (loadA Try.prog 23 r19.2 r14.1)).bind fun r20 =>
  (callA E md0 r20.2 9 [r20.1, (.v (Go.Value.int Go.IntKind.i64 4)), r5.1]).bind fun r21 =>
  (pv r21.2 (tupA r21.1 0)).bind fun r22 =>
  (pv r22.2 (tupA r21.1 1)).bind fun r23 =>
  (pv r23.2 (loadA Try.prog 23 r23.2 r14.1)).bind fun r24 =>
  (callA E md0 r24.2 13 [r24.1, (.v (Go.Value.int Go.IntKind.i64 4)), r4.1, r8.1]).bind fun r25 =>
  (pv r25.2 (tupA r25.1 0)).bind fun r26 =>
  (pv r26.2 (tupA r25.1 1)).bind fun r27 =>
  (allocA Try.prog r27.2 23).bind fun r28 =>
  (stA Try.prog 23 r28.2 r28.1 r26.1).bind fun r29 =>
  (callA E md0 r29.2 14 [(.v (Go.Value.int Go.IntKind.i64 4)), r4.1]).bind fun r30 =>
  (pv r30.2 (tupA r30.1 0)).bind fun r31 =>
  (pv r31.2 (tupA r30.1 1)).bind fun r32 =>
  (pv r32.2 (binA Try.prog .eql 27 r13.1 (.v (Go.Value.int Go.IntKind.i64 0)))).bind fun r33 =>
  (gsel true r33.2 (some (r27.1, r33.2)) r33.1).bind fun r34 =>
  (gsel true r34.2 (pv r34.2 (binA Try.prog .eql 27 r34.1 (.v (Go.Value.int Go.IntKind.i64 0)))) r33.1).bind fun r35 =>
  (pv r35.2 (pickA r33.1 r35.1 (.v (Go.Value.bool false)))).bind fun r36 =>
  (gsel true r36.2 (pv r36.2 (loadA Try.prog 23 r36.2 r28.1)) r36.1).bind fun r37 =>
  (gsel true r37.2 (pv r37.2 (loadA Try.prog 23 r37.2 r1.1)) r36.1).bind fun r38 =>
  (gsel true r38.2 (pv r38.2 (binA Try.prog .eql 23 r37.1 r38.1)) r36.1).bind fun r39 =>
  (pv r39.2 (pickA r36.1 r39.1 (.v (Go.Value.bool false)))).bind fun r40 =>
  (gsel true r40.2 (some (r22.1, r40.2)) r40.1).bind fun r41 =>
  (gsel true r41.2 (some (r18.1, r41.2)) r40.1).bind fun r42 =>
  (gsel true r42.2 (some (r42.1, r42.2)) r40.1).bind fun r43 =>
  (gsel false r43.2 (some (r4.1, r43.2)) r43.1).bind fun r44 =>
  (gsel false r44.2 (some (r5.1, r44.2)) r43.1).bind fun r45 =>
  (gsel false r45.2 (pv r45.2 (binA Try.prog .eql 3 r44.1 r45.1)) r43.1).bind fun r46 =>
  (gsel true r46.2 (pv r46.2 (pickA r43.1 (.v (Go.Value.bool true)) r46.1)) r40.1).bind fun r47 =>
  (gsel true r47.2 (pv r47.2 (binA Try.prog .eql 4 r41.1 r47.1)) r40.1).bind fun r48 =>
  (pv r48.2 (pickA r40.1 r48.1 (.v (Go.Value.bool false)))).bind fun r49 =>
  (gsel true r49.2 (pv r49.2 (loadA Try.prog 23 r49.2 r14.1)) r49.1).bind fun r50 =>
  (gsel true r50.2 (pv r50.2 (loadA Try.prog 23 r50.2 r1.1)) r49.1).bind fun r51 =>
  (gsel true r51.2 (pv r51.2 (binA Try.prog .eql 23 r50.1 r51.1)) r49.1).bind fun r52 =>
  (gsel true r52.2 (some (r8.1, r52.2)) r49.1).bind fun r53 =>
  (gsel true r53.2 (pv r53.2 (binA Try.prog .eql 4 r52.1 r53.1)) r49.1).bind fun r54 =>
  (pv r54.2 (pickA r49.1 r54.1 (.v (Go.Value.bool false)))).bind fun r55 =>
  (gsel true r55.2 (some (r8.1, r55.2)) r55.1).bind fun r56 =>
  (gsel true r56.2 (some (r56.1, r56.2)) r55.1).bind fun r57 =>
  (gsel false r57.2 (some (r31.1, r57.2)) r57.1).bind fun r58 =>
  (gsel false r58.2 (pv r58.2 (indexAddrA Try.prog 23 r14.1 r58.1)) r57.1).bind fun r59 =>
  (gsel false r59.2 (pv r59.2 (loadA Try.prog 5 r59.2 r59.1)) r57.1).bind fun r60 =>
  (gsel false r60.2 (some (r31.1, r60.2)) r57.1).bind fun r61 =>
  (gsel false r61.2 (pv r61.2 (indexAddrA Try.prog 23 r1.1 r61.1)) r57.1).bind fun r62 =>
  (gsel false r62.2 (pv r62.2 (loadA Try.prog 5 r62.2 r62.1)) r57.1).bind fun r63 =>
  (gsel false r63.2 (pv r63.2 (binA Try.prog .neq 5 r60.1 r63.1)) r57.1).bind fun r64 =>
  (gsel true r64.2 (pv r64.2 (pickA r57.1 (.v (Go.Value.bool true)) r64.1)) r55.1).bind fun r65 =>
  (pv r65.2 (pickA r55.1 r65.1 (.v (Go.Value.bool false)))).bind fun r66 =>
  some (.ret, ⟨[(8, r66.1), (21, r31.1), (20, r27.1), (19, r28.1), (17, r22.1), (15, r18.1), (14, r13.1), (13, r14.1), (11, r8.1), (3, r5.1), (2, r4.1), (10, (.v (Go.Value.int Go.IntKind.i64 24))), (9, (.v (Go.Value.int Go.IntKind.i64 4))), (25, a1), (10, (.v (Go.Value.int Go.IntKind.i64 128))), (9, (.v (Go.Value.int Go.IntKind.i64 0))), (24, r3.1), (8, (.v (Go.Value.bool false))), (4, r1.1), (0, a0), (1, a1), (2, a2), (3, a3)], r66.2⟩)) ((callA E md0 r3.2 12 [a2, (.v (Go.Value.int Go.IntKind.i64 128))]).bind fun r67 =>
  (callA E md0 r67.2 12 [a3, (.v (Go.Value.int Go.IntKind.i64 128))]).bind fun r68 =>
  (pv r68.2 (loadA Try.prog 23 r68.2 r1.1)).bind fun r69 =>
  (callA E md0 r69.2 9 [r69.1, (.v (Go.Value.int Go.IntKind.i64 0)), r67.1]).bind fun r70 =>
  (pv r70.2 (tupA r70.1 0)).bind fun r71 =>
  (pv r71.2 (tupA r70.1 1)).bind fun r72 =>
  (pv r72.2 (loadA Try.prog 23 r72.2 r1.1)).bind fun r73 =>
  (callA E md0 r73.2 13 [r73.1, (.v (Go.Value.int Go.IntKind.i64 0)), r67.1, (.v (Go.Value.bool true))]).bind fun r74 =>
  (pv r74.2 (tupA r74.1 0)).bind fun r75 =>
  (pv r75.2 (tupA r74.1 1)).bind fun r76 =>
  (allocA Try.prog r76.2 23).bind fun r77 =>
  (stA Try.prog 23 r77.2 r77.1 r75.1).bind fun r78 =>
  (pv r78.2 (loadA Try.prog 23 r78.2 r1.1)).bind fun r79 =>
  (callA E md0 r79.2 9 [r79.1, (.v (Go.Value.int Go.IntKind.i64 0)), r68.1]).bind fun r80 =>
  (pv r80.2 (tupA r80.1 0)).bind fun r81 =>
  (pv r81.2 (tupA r80.1 1)).bind fun r82 =>
  (pv r82.2 (loadA Try.prog 23 r82.2 r77.1)).bind fun r83 =>
  (callA E md0 r83.2 9 [r83.1, (.v (Go.Value.int Go.IntKind.i64 0)), r68.1]).bind fun r84 =>
  (pv r84.2 (tupA r84.1 0)).bind fun r85 =>
  (pv r85.2 (tupA r84.1 1)).bind fun r86 =>
  (pv r86.2 (loadA Try.prog 23 r86.2 r77.1)).bind fun r87 =>
  (callA E md0 r87.2 13 [r87.1, (.v (Go.Value.int Go.IntKind.i64 0)), r67.1, r71.1]).bind fun r88 =>
  (pv r88.2 (tupA r88.1 0)).bind fun r89 =>
  (pv r89.2 (tupA r88.1 1)).bind fun r90 =>
  (allocA Try.prog r90.2 23).bind fun r91 =>
  (stA Try.prog 23 r91.2 r91.1 r89.1).bind fun r92 =>
  (callA E md0 r92.2 14 [(.v (Go.Value.int Go.IntKind.i64 0)), r67.1]).bind fun r93 =>
  (pv r93.2 (tupA r93.1 0)).bind fun r94 =>
  (pv r94.2 (tupA r93.1 1)).bind fun r95 =>
  (pv r95.2 (binA Try.prog .eql 27 r76.1 (.v (Go.Value.int Go.IntKind.i64 0)))).bind fun r96 =>
  (gsel true r96.2 (some (r90.1, r96.2)) r96.1).bind fun r97 =>
  (gsel true r97.2 (pv r97.2 (binA Try.prog .eql 27 r97.1 (.v (Go.Value.int Go.IntKind.i64 0)))) r96.1).bind fun r98 =>
  (pv r98.2 (pickA r96.1 r98.1 (.v (Go.Value.bool false)))).bind fun r99 =>
  (gsel true r99.2 (pv r99.2 (loadA Try.prog 23 r99.2 r91.1)) r99.1).bind fun r100 =>
  (gsel true r100.2 (pv r100.2 (loadA Try.prog 23 r100.2 r1.1)) r99.1).bind fun r101 =>
  (gsel true r101.2 (pv r101.2 (binA Try.prog .eql 23 r100.1 r101.1)) r99.1).bind fun r102 =>
  (pv r102.2 (pickA r99.1 r102.1 (.v (Go.Value.bool false)))).bind fun r103 =>
  (gsel true r103.2 (some (r85.1, r103.2)) r103.1).bind fun r104 =>
  (gsel true r104.2 (some (r81.1, r104.2)) r103.1).bind fun r105 =>
  (gsel true r105.2 (some (r105.1, r105.2)) r103.1).bind fun r106 =>
  (gsel false r106.2 (some (r67.1, r106.2)) r106.1).bind fun r107 =>
  (gsel false r107.2 (some (r68.1, r107.2)) r106.1).bind fun r108 =>
  (gsel false r108.2 (pv r108.2 (binA Try.prog .eql 3 r107.1 r108.1)) r106.1).bind fun r109 =>
  (gsel true r109.2 (pv r109.2 (pickA r106.1 (.v (Go.Value.bool true)) r109.1)) r103.1).bind fun r110 =>
  (gsel true r110.2 (pv r110.2 (binA Try.prog .eql 4 r104.1 r110.1)) r103.1).bind fun r111 =>
  (pv r111.2 (pickA r103.1 r111.1 (.v (Go.Value.bool false)))).bind fun r112 =>
  (gsel true r112.2 (pv r112.2 (loadA Try.prog 23 r112.2 r77.1)) r112.1).bind fun r113 =>
  (gsel true r113.2 (pv r113.2 (loadA Try.prog 23 r113.2 r1.1)) r112.1).bind fun r114 =>
  (gsel true r114.2 (pv r114.2 (binA Try.prog .eql 23 r113.1 r114.1)) r112.1).bind fun r115 =>
  (gsel true r115.2 (some (r71.1, r115.2)) r112.1).bind fun r116 =>
  (gsel true r116.2 (pv r116.2 (binA Try.prog .eql 4 r115.1 r116.1)) r112.1).bind fun r117 =>
  (pv r117.2 (pickA r112.1 r117.1 (.v (Go.Value.bool false)))).bind fun r118 =>
  (gsel true r118.2 (some (r71.1, r118.2)) r118.1).bind fun r119 =>
  (gsel true r119.2 (some (r119.1, r119.2)) r118.1).bind fun r120 =>
  (gsel false r120.2 (some (r94.1, r120.2)) r120.1).bind fun r121 =>
  (gsel false r121.2 (pv r121.2 (indexAddrA Try.prog 23 r77.1 r121.1)) r120.1).bind fun r122 =>
  (gsel false r122.2 (pv r122.2 (loadA Try.prog 5 r122.2 r122.1)) r120.1).bind fun r123 =>
  (gsel false r123.2 (some (r94.1, r123.2)) r120.1).bind fun r124 =>
  (gsel false r124.2 (pv r124.2 (indexAddrA Try.prog 23 r1.1 r124.1)) r120.1).bind fun r125 =>
  (gsel false r125.2 (pv r125.2 (loadA Try.prog 5 r125.2 r125.1)) r120.1).bind fun r126 =>
  (gsel false r126.2 (pv r126.2 (binA Try.prog .neq 5 r123.1 r126.1)) r120.1).bind fun r127 =>
  (gsel true r127.2 (pv r127.2 (pickA r120.1 (.v (Go.Value.bool true)) r127.1)) r118.1).bind fun r128 =>
  (pv r128.2 (pickA r118.1 r128.1 (.v (Go.Value.bool false)))).bind fun r129 =>
  some (.ret, ⟨[(8, r129.1), (21, r94.1), (20, r90.1), (19, r91.1), (17, r85.1), (15, r81.1), (14, r76.1), (13, r77.1), (11, r71.1), (3, r68.1), (2, r67.1), (25, a1), (10, (.v (Go.Value.int Go.IntKind.i64 128))), (9, (.v (Go.Value.int Go.IntKind.i64 0))), (24, r3.1), (8, (.v (Go.Value.bool false))), (4, r1.1), (0, a0), (1, a1), (2, a2), (3, a3)], r129.2⟩)))
theorem c_l09_MapsOne_eq : Try.f4.body = some c_l09_MapsOne := by kernel_rfl
theorem d_l09_MapsOne : drawsOk Try.prog md0 c_l09_MapsOne = true := by kernel_rfl
theorem F_l09_MapsOne_eq (E : FnA) (n n0 : Nat) (a0 a1 a2 a3 : AV) (bx : Bx) : evK Try.prog md0 E 114 kp_l09_MapsOne n n0 c_l09_MapsOne ⟨[(0, a0), (1, a1), (2, a2), (3, a3)], bx⟩ (fun s => some (.normal, s)) (fun i s => some (.exit i, s)) = F_l09_MapsOne E n n0 a0 a1 a2 a3 bx := by kernel_rfl

theorem E_l09_MapsOne (n : Nat) (a0 a1 a2 a3 : AV) (bx : Bx) : evFn cx0 ext0 (n + 1) 4 [a0, a1, a2, a3] bx = fin Try.prog [.tmp 8] (F_l09_MapsOne (evFn cx0 ext0 n) n bx.length a0 a1 a2 a3 bx) := by
  rw [evFn_eq2 (cx := cx0) (c := c_l09_MapsOne) rfl Try.func4 c_l09_MapsOne_eq (of_decide_eq_true (by kernel_rfl)) d_l09_MapsOne (of_decide_eq_true (by kernel_rfl))]
  exact congrArg (fin Try.prog [.tmp 8]) (F_l09_MapsOne_eq (evFn cx0 ext0 n) n bx.length a0 a1 a2 a3 bx)

/-- scupper/scupperlaw09.MapsHeads -/
def kp_l09_MapsHeads : Option (List Nat) := some [0, 1, 2, 4, 6, 7, 8, 9, 10]
noncomputable def c_l09_MapsHeads : Code := Try.f5.body.getD .skip
noncomputable def F_l09_MapsHeads (E : FnA) (_n _n0 : Nat) (a0 a1 a2 : AV) (bx : Bx) : Option (Ex × S) :=
  (boxA bx a1).bind fun r1 =>
  (callA E md0 r1.2 15 [a0]).bind fun r2 =>
  (pv r2.2 (tupA r2.1 0)).bind fun r3 =>
  (pv r3.2 (tupA r2.1 1)).bind fun r4 =>
  (allocA Try.prog r4.2 23).bind fun r5 =>
  (stA Try.prog 23 r5.2 r5.1 r3.1).bind fun r6 =>
  (callA E md0 r6.2 16 [a0]).bind fun r7 =>
  (pv r7.2 (tupA r7.1 0)).bind fun r8 =>
  (pv r8.2 (tupA r7.1 1)).bind fun r9 =>
  (allocA Try.prog r9.2 23).bind fun r10 =>
  (stA Try.prog 23 r10.2 r10.1 r8.1).bind fun r11 =>
  (pv r11.2 (loadA Try.prog 23 r11.2 r5.1)).bind fun r12 =>
  (pv r12.2 (loadA Try.prog 23 r12.2 r10.1)).bind fun r13 =>
  (pv r13.2 (binA Try.prog .eql 23 r12.1 r13.1)).bind fun r14 =>
  (gsel true r14.2 (some (r4.1, r14.2)) r14.1).bind fun r15 =>
  (gsel true r15.2 (some (r9.1, r15.2)) r14.1).bind fun r16 =>
  (gsel true r16.2 (pv r16.2 (binA Try.prog .eql 27 r15.1 r16.1)) r14.1).bind fun r17 =>
  (pv r17.2 (pickA r14.1 r17.1 (.v (Go.Value.bool false)))).bind fun r18 =>
  (gsel true r18.2 (pv r18.2 (loadA Try.prog 23 r18.2 r1.1)) r18.1).bind fun r19 =>
  (gsel true r19.2 (some (a2, r19.2)) r18.1).bind fun r20 =>
  (gsel true r20.2 (callA E md0 r20.2 17 [r19.1, r20.1]) r18.1).bind fun r21 =>
  (gsel true r21.2 (pv r21.2 (loadA Try.prog 23 r21.2 r1.1)) r18.1).bind fun r22 =>
  (gsel true r22.2 (some (a2, r22.2)) r18.1).bind fun r23 =>
  (gsel true r23.2 (callA E md0 r23.2 18 [r22.1, r23.1]) r18.1).bind fun r24 =>
  (gsel true r24.2 (pv r24.2 (binA Try.prog .eql 4 r21.1 r24.1)) r18.1).bind fun r25 =>
  (pv r25.2 (pickA r18.1 r25.1 (.v (Go.Value.bool false)))).bind fun r26 =>
  (gsel true r26.2 (some (r4.1, r26.2)) r26.1).bind fun r27 =>
  (gsel true r27.2 (pv r27.2 (binA Try.prog .neq 27 r27.1 (.v (Go.Value.int Go.IntKind.i64 0)))) r26.1).bind fun r28 =>
  (gsel true r28.2 (some (r28.1, r28.2)) r26.1).bind fun r29 =>
  (gsel false r29.2 (pv r29.2 (loadA Try.prog 23 r29.2 r5.1)) r29.1).bind fun r30 =>
  (gsel false r30.2 (some (a2, r30.2)) r29.1).bind fun r31 =>
  (gsel false r31.2 (callA E md0 r31.2 17 [r30.1, r31.1]) r29.1).bind fun r32 =>
  (gsel false r32.2 (some (a2, r32.2)) r29.1).bind fun r33 =>
  (gsel false r33.2 (some (a0, r33.2)) r29.1).bind fun r34 =>
  (gsel false r34.2 (pv r34.2 (binA Try.prog .eql 3 r33.1 r34.1)) r29.1).bind fun r35 =>
  (gsel false r35.2 (pv r35.2 (binA Try.prog .eql 4 r32.1 r35.1)) r29.1).bind fun r36 =>
  (gsel true r36.2 (pv r36.2 (pickA r29.1 (.v (Go.Value.bool true)) r36.1)) r26.1).bind fun r37 =>
  (pv r37.2 (pickA r26.1 r37.1 (.v (Go.Value.bool false)))).bind fun r38 =>
  (gsel true r38.2 (callA E md0 r38.2 11 []) r38.1).bind fun r39 =>
  (pv r39.2 (pickA r38.1 r39.1 (.v (Go.Value.bool false)))).bind fun r40 =>
  some (.ret, ⟨[(6, r40.1), (10, r9.1), (9, r10.1), (8, r4.1), (7, r5.1), (6, (.v (Go.Value.bool false))), (4, r1.1), (0, a0), (1, a1), (2, a2)], r40.2⟩)
theorem c_l09_MapsHeads_eq : Try.f5.body = some c_l09_MapsHeads := by kernel_rfl
theorem d_l09_MapsHeads : drawsOk Try.prog md0 c_l09_MapsHeads = true := by kernel_rfl
theorem F_l09_MapsHeads_eq (E : FnA) (n n0 : Nat) (a0 a1 a2 : AV) (bx : Bx) : evK Try.prog md0 E 54 kp_l09_MapsHeads n n0 c_l09_MapsHeads ⟨[(0, a0), (1, a1), (2, a2)], bx⟩ (fun s => some (.normal, s)) (fun i s => some (.exit i, s)) = F_l09_MapsHeads E n n0 a0 a1 a2 bx := by kernel_rfl

theorem E_l09_MapsHeads (n : Nat) (a0 a1 a2 : AV) (bx : Bx) : evFn cx0 ext0 (n + 1) 5 [a0, a1, a2] bx = fin Try.prog [.tmp 6] (F_l09_MapsHeads (evFn cx0 ext0 n) n bx.length a0 a1 a2 bx) := by
  rw [evFn_eq2 (cx := cx0) (c := c_l09_MapsHeads) rfl Try.func5 c_l09_MapsHeads_eq (of_decide_eq_true (by kernel_rfl)) d_l09_MapsHeads (of_decide_eq_true (by kernel_rfl))]
  exact congrArg (fin Try.prog [.tmp 6]) (F_l09_MapsHeads_eq (evFn cx0 ext0 n) n bx.length a0 a1 a2 bx)

/-- scupper/scupperlaw09.MapsTells -/
def kp_l09_MapsTells : Option (List Nat) := some [0, 1, 2, 3, 4, 5, 10, 11, 12, 13, 14, 15, 16, 17, 18, 19, 20, 21, 22, 23, 24, 25, 26]
noncomputable def c_l09_MapsTells : Code := Try.f6.body.getD .skip
noncomputable def F_l09_MapsTells (E : FnA) (_n _n0 : Nat) (a0 a1 a2 a3 a4 : AV) (bx : Bx) : Option (Ex × S) :=
  (boxA bx a0).bind fun r1 =>
  (callA E md0 r1.2 15 [a1]).bind fun r2 =>
  (pv r2.2 (tupA r2.1 0)).bind fun r3 =>
  (pv r3.2 (tupA r2.1 1)).bind fun r4 =>
  (allocA Try.prog r4.2 23).bind fun r5 =>
  (stA Try.prog 23 r5.2 r5.1 r3.1).bind fun r6 =>
  (callA E md0 r6.2 16 [a1]).bind fun r7 =>
  (pv r7.2 (tupA r7.1 0)).bind fun r8 =>
  (pv r8.2 (tupA r7.1 1)).bind fun r9 =>
  (allocA Try.prog r9.2 23).bind fun r10 =>
  (stA Try.prog 23 r10.2 r10.1 r8.1).bind fun r11 =>
  (pv r11.2 (loadA Try.prog 23 r11.2 r1.1)).bind fun r12 =>
  (callA E md0 r12.2 9 [r12.1, a2, a3]).bind fun r13 =>
  (pv r13.2 (tupA r13.1 0)).bind fun r14 =>
  (pv r14.2 (tupA r13.1 1)).bind fun r15 =>
  (pv r15.2 (loadA Try.prog 23 r15.2 r1.1)).bind fun r16 =>
  (callA E md0 r16.2 19 [r16.1, a2, a3]).bind fun r17 =>
  (pv r17.2 (tupA r17.1 0)).bind fun r18 =>
  (pv r18.2 (tupA r17.1 1)).bind fun r19 =>
  (pv r19.2 (loadA Try.prog 23 r19.2 r1.1)).bind fun r20 =>
  (callA E md0 r20.2 13 [r20.1, a2, a3, a4]).bind fun r21 =>
  (pv r21.2 (tupA r21.1 0)).bind fun r22 =>
  (pv r22.2 (tupA r21.1 1)).bind fun r23 =>
  (allocA Try.prog r23.2 23).bind fun r24 =>
  (stA Try.prog 23 r24.2 r24.1 r22.1).bind fun r25 =>
  (pv r25.2 (loadA Try.prog 23 r25.2 r1.1)).bind fun r26 =>
  (callA E md0 r26.2 20 [r26.1, a2, a3, a4]).bind fun r27 =>
  (pv r27.2 (tupA r27.1 0)).bind fun r28 =>
  (pv r28.2 (tupA r27.1 1)).bind fun r29 =>
  (allocA Try.prog r29.2 23).bind fun r30 =>
  (stA Try.prog 23 r30.2 r30.1 r28.1).bind fun r31 =>
  (callA E md0 r31.2 14 [a2, a3]).bind fun r32 =>
  (pv r32.2 (tupA r32.1 0)).bind fun r33 =>
  (pv r33.2 (tupA r32.1 1)).bind fun r34 =>
  (callA E md0 r34.2 21 [a2, a3]).bind fun r35 =>
  (pv r35.2 (tupA r35.1 0)).bind fun r36 =>
  (pv r36.2 (tupA r35.1 1)).bind fun r37 =>
  (pv r37.2 (loadA Try.prog 23 r37.2 r5.1)).bind fun r38 =>
  (pv r38.2 (loadA Try.prog 23 r38.2 r10.1)).bind fun r39 =>
  (pv r39.2 (binA Try.prog .eql 23 r38.1 r39.1)).bind fun r40 =>
  (gsel true r40.2 (some (r4.1, r40.2)) r40.1).bind fun r41 =>
  (gsel true r41.2 (some (r9.1, r41.2)) r40.1).bind fun r42 =>
  (gsel true r42.2 (pv r42.2 (binA Try.prog .eql 27 r41.1 r42.1)) r40.1).bind fun r43 =>
  (pv r43.2 (pickA r40.1 r43.1 (.v (Go.Value.bool false)))).bind fun r44 =>
  (gsel true r44.2 (some (r14.1, r44.2)) r44.1).bind fun r45 =>
  (gsel true r45.2 (some (r18.1, r45.2)) r44.1).bind fun r46 =>
  (gsel true r46.2 (pv r46.2 (binA Try.prog .eql 4 r45.1 r46.1)) r44.1).bind fun r47 =>
  (pv r47.2 (pickA r44.1 r47.1 (.v (Go.Value.bool false)))).bind fun r48 =>
  (gsel true r48.2 (some (r15.1, r48.2)) r48.1).bind fun r49 =>
  (gsel true r49.2 (some (r19.1, r49.2)) r48.1).bind fun r50 =>
  (gsel true r50.2 (pv r50.2 (binA Try.prog .eql 27 r49.1 r50.1)) r48.1).bind fun r51 =>
  (pv r51.2 (pickA r48.1 r51.1 (.v (Go.Value.bool false)))).bind fun r52 =>
  (gsel true r52.2 (pv r52.2 (loadA Try.prog 23 r52.2 r24.1)) r52.1).bind fun r53 =>
  (gsel true r53.2 (pv r53.2 (loadA Try.prog 23 r53.2 r30.1)) r52.1).bind fun r54 =>
  (gsel true r54.2 (pv r54.2 (binA Try.prog .eql 23 r53.1 r54.1)) r52.1).bind fun r55 =>
  (pv r55.2 (pickA r52.1 r55.1 (.v (Go.Value.bool false)))).bind fun r56 =>
  (gsel true r56.2 (some (r23.1, r56.2)) r56.1).bind fun r57 =>
  (gsel true r57.2 (some (r29.1, r57.2)) r56.1).bind fun r58 =>
  (gsel true r58.2 (pv r58.2 (binA Try.prog .eql 27 r57.1 r58.1)) r56.1).bind fun r59 =>
  (pv r59.2 (pickA r56.1 r59.1 (.v (Go.Value.bool false)))).bind fun r60 =>
  (gsel true r60.2 (some (r33.1, r60.2)) r60.1).bind fun r61 =>
  (gsel true r61.2 (some (r36.1, r61.2)) r60.1).bind fun r62 =>
  (gsel true r62.2 (pv r62.2 (binA Try.prog .eql 3 r61.1 r62.1)) r60.1).bind fun r63 =>
  (pv r63.2 (pickA r60.1 r63.1 (.v (Go.Value.bool false)))).bind fun r64 =>
  (gsel true r64.2 (some (r34.1, r64.2)) r64.1).bind fun r65 =>
  (gsel true r65.2 (some (r37.1, r65.2)) r64.1).bind fun r66 =>
  (gsel true r66.2 (pv r66.2 (binA Try.prog .eql 27 r65.1 r66.1)) r64.1).bind fun r67 =>
  (pv r67.2 (pickA r64.1 r67.1 (.v (Go.Value.bool false)))).bind fun r68 =>
  (gsel true r68.2 (pv r68.2 (loadA Try.prog 23 r68.2 r1.1)) r68.1).bind fun r69 =>
  (gsel true r69.2 (some (a1, r69.2)) r68.1).bind fun r70 =>
  (gsel true r70.2 (callA E md0 r70.2 17 [r69.1, r70.1]) r68.1).bind fun r71 =>
  (gsel true r71.2 (pv r71.2 (loadA Try.prog 23 r71.2 r1.1)) r68.1).bind fun r72 =>
  (gsel true r72.2 (some (a1, r72.2)) r68.1).bind fun r73 =>
  (gsel true r73.2 (callA E md0 r73.2 18 [r72.1, r73.1]) r68.1).bind fun r74 =>
  (gsel true r74.2 (pv r74.2 (binA Try.prog .eql 4 r71.1 r74.1)) r68.1).bind fun r75 =>
  (pv r75.2 (pickA r68.1 r75.1 (.v (Go.Value.bool false)))).bind fun r76 =>
  (gsel true r76.2 (pv r76.2 (loadA Try.prog 23 r76.2 r10.1)) r76.1).bind fun r77 =>
  (gsel true r77.2 (some (a1, r77.2)) r76.1).bind fun r78 =>
  (gsel true r78.2 (callA E md0 r78.2 17 [r77.1, r78.1]) r76.1).bind fun r79 =>
  (gsel true r79.2 (some (r9.1, r79.2)) r76.1).bind fun r80 =>
  (gsel true r80.2 (pv r80.2 (binA Try.prog .eql 27 r80.1 (.v (Go.Value.int Go.IntKind.i64 0)))) r76.1).bind fun r81 =>
  (gsel true r81.2 (pv r81.2 (binA Try.prog .eql 4 r79.1 r81.1)) r76.1).bind fun r82 =>
  (pv r82.2 (pickA r76.1 r82.1 (.v (Go.Value.bool false)))).bind fun r83 =>
  (gsel true r83.2 (callA E md0 r83.2 11 []) r83.1).bind fun r84 =>
  (pv r84.2 (pickA r83.1 r84.1 (.v (Go.Value.bool false)))).bind fun r85 =>
  some (.ret, ⟨[(10, r85.1), (26, r37.1), (25, r36.1), (24, r34.1), (23, r33.1), (22, r29.1), (21, r30.1), (20, r23.1), (19, r24.1), (18, r19.1), (17, r18.1), (16, r15.1), (15, r14.1), (14, r9.1), (13, r10.1), (12, r4.1), (11, r5.1), (10, (.v (Go.Value.bool false))), (5, r1.1), (0, a0), (1, a1), (2, a2), (3, a3), (4, a4)], r85.2⟩)
theorem c_l09_MapsTells_eq : Try.f6.body = some c_l09_MapsTells := by kernel_rfl
theorem d_l09_MapsTells : drawsOk Try.prog md0 c_l09_MapsTells = true := by kernel_rfl
theorem F_l09_MapsTells_eq (E : FnA) (n n0 : Nat) (a0 a1 a2 a3 a4 : AV) (bx : Bx) : evK Try.prog md0 E 137 kp_l09_MapsTells n n0 c_l09_MapsTells ⟨[(0, a0), (1, a1), (2, a2), (3, a3), (4, a4)], bx⟩ (fun s => some (.normal, s)) (fun i s => some (.exit i, s)) = F_l09_MapsTells E n n0 a0 a1 a2 a3 a4 bx := by kernel_rfl

theorem E_l09_MapsTells (n : Nat) (a0 a1 a2 a3 a4 : AV) (bx : Bx) : evFn cx0 ext0 (n + 1) 6 [a0, a1, a2, a3, a4] bx = fin Try.prog [.tmp 10] (F_l09_MapsTells (evFn cx0 ext0 n) n bx.length a0 a1 a2 a3 a4 bx) := by
  rw [evFn_eq2 (cx := cx0) (c := c_l09_MapsTells) rfl Try.func6 c_l09_MapsTells_eq (of_decide_eq_true (by kernel_rfl)) d_l09_MapsTells (of_decide_eq_true (by kernel_rfl))]
  exact congrArg (fin Try.prog [.tmp 10]) (F_l09_MapsTells_eq (evFn cx0 ext0 n) n bx.length a0 a1 a2 a3 a4 bx)

/-- scupper/scupperlaw09.MapsCounts -/
def kp_l09_MapsCounts : Option (List Nat) := some [0, 1, 2, 3, 4, 5, 8, 9, 10, 11, 12]
noncomputable def c_l09_MapsCounts : Code := Try.f7.body.getD .skip
noncomputable def F_l09_MapsCounts (E : FnA) (_n _n0 : Nat) (a0 a1 a2 a3 : AV) (bx : Bx) : Option (Ex × S) :=
  (boxA bx a0).bind fun r1 =>
  (boxA r1.2 a1).bind fun r2 =>
  (pv r2.2 (loadA Try.prog 23 r2.2 r1.1)).bind fun r3 =>
  (pv r3.2 (loadA Try.prog 25 r3.2 r2.1)).bind fun r4 =>
  (callA E md0 r4.2 22 [r3.1, r4.1]).bind fun r5 =>
  (pv r5.2 (tupA r5.1 0)).bind fun r6 =>
  (pv r6.2 (tupA r5.1 1)).bind fun r7 =>
  (pv r7.2 (loadA Try.prog 23 r7.2 r1.1)).bind fun r8 =>
  (pv r8.2 (loadA Try.prog 25 r8.2 r2.1)).bind fun r9 =>
  (callA E md0 r9.2 23 [r8.1, r9.1]).bind fun r10 =>
  (pv r10.2 (tupA r10.1 0)).bind fun r11 =>
  (pv r11.2 (tupA r10.1 1)).bind fun r12 =>
  (pv r12.2 (binA Try.prog .eql 3 r6.1 r11.1)).bind fun r13 =>
  (gsel true r13.2 (some (r7.1, r13.2)) r13.1).bind fun r14 =>
  (gsel true r14.2 (some (r12.1, r14.2)) r13.1).bind fun r15 =>
  (gsel true r15.2 (pv r15.2 (binA Try.prog .eql 3 r14.1 r15.1)) r13.1).bind fun r16 =>
  (pv r16.2 (pickA r13.1 r16.1 (.v (Go.Value.bool false)))).bind fun r17 =>
  (gsel true r17.2 (pv r17.2 (loadA Try.prog 23 r17.2 r1.1)) r17.1).bind fun r18 =>
  (gsel true r18.2 (pv r18.2 (loadA Try.prog 25 r18.2 r2.1)) r17.1).bind fun r19 =>
  (gsel true r19.2 (some (a2, r19.2)) r17.1).bind fun r20 =>
  (gsel true r20.2 (some (a3, r20.2)) r17.1).bind fun r21 =>
  (gsel true r21.2 (callA E md0 r21.2 8 [r18.1, r19.1, r20.1, r21.1]) r17.1).bind fun r22 =>
  (gsel true r22.2 (pv r22.2 (loadA Try.prog 23 r22.2 r1.1)) r17.1).bind fun r23 =>
  (gsel true r23.2 (pv r23.2 (loadA Try.prog 25 r23.2 r2.1)) r17.1).bind fun r24 =>
  (gsel true r24.2 (some (a2, r24.2)) r17.1).bind fun r25 =>
  (gsel true r25.2 (some (a3, r25.2)) r17.1).bind fun r26 =>
  (gsel true r26.2 (callA E md0 r26.2 10 [r23.1, r24.1, r25.1, r26.1]) r17.1).bind fun r27 =>
  (gsel true r27.2 (pv r27.2 (binA Try.prog .eql 3 r22.1 r27.1)) r17.1).bind fun r28 =>
  (pv r28.2 (pickA r17.1 r28.1 (.v (Go.Value.bool false)))).bind fun r29 =>
  (gsel true r29.2 (pv r29.2 (loadA Try.prog 23 r29.2 r1.1)) r29.1).bind fun r30 =>
  (gsel true r30.2 (pv r30.2 (loadA Try.prog 25 r30.2 r2.1)) r29.1).bind fun r31 =>
  (gsel true r31.2 (callA E md0 r31.2 24 [r30.1, r31.1]) r29.1).bind fun r32 =>
  (gsel true r32.2 (pv r32.2 (loadA Try.prog 23 r32.2 r1.1)) r29.1).bind fun r33 =>
  (gsel true r33.2 (pv r33.2 (loadA Try.prog 25 r33.2 r2.1)) r29.1).bind fun r34 =>
  (gsel true r34.2 (callA E md0 r34.2 25 [r33.1, r34.1]) r29.1).bind fun r35 =>
  (gsel true r35.2 (pv r35.2 (binA Try.prog .eql 4 r32.1 r35.1)) r29.1).bind fun r36 =>
  (pv r36.2 (pickA r29.1 r36.1 (.v (Go.Value.bool false)))).bind fun r37 =>
  (gsel true r37.2 (callA E md0 r37.2 11 []) r37.1).bind fun r38 =>
  (pv r38.2 (pickA r37.1 r38.1 (.v (Go.Value.bool false)))).bind fun r39 =>
  some (.ret, ⟨[(8, r39.1), (12, r12.1), (11, r11.1), (10, r7.1), (9, r6.1), (8, (.v (Go.Value.bool false))), (5, r2.1), (4, r1.1), (0, a0), (1, a1), (2, a2), (3, a3)], r39.2⟩)
theorem c_l09_MapsCounts_eq : Try.f7.body = some c_l09_MapsCounts := by kernel_rfl
theorem d_l09_MapsCounts : drawsOk Try.prog md0 c_l09_MapsCounts = true := by kernel_rfl
theorem F_l09_MapsCounts_eq (E : FnA) (n n0 : Nat) (a0 a1 a2 a3 : AV) (bx : Bx) : evK Try.prog md0 E 58 kp_l09_MapsCounts n n0 c_l09_MapsCounts ⟨[(0, a0), (1, a1), (2, a2), (3, a3)], bx⟩ (fun s => some (.normal, s)) (fun i s => some (.exit i, s)) = F_l09_MapsCounts E n n0 a0 a1 a2 a3 bx := by kernel_rfl

theorem E_l09_MapsCounts (n : Nat) (a0 a1 a2 a3 : AV) (bx : Bx) : evFn cx0 ext0 (n + 1) 7 [a0, a1, a2, a3] bx = fin Try.prog [.tmp 8] (F_l09_MapsCounts (evFn cx0 ext0 n) n bx.length a0 a1 a2 a3 bx) := by
  rw [evFn_eq2 (cx := cx0) (c := c_l09_MapsCounts) rfl Try.func7 c_l09_MapsCounts_eq (of_decide_eq_true (by kernel_rfl)) d_l09_MapsCounts (of_decide_eq_true (by kernel_rfl))]
  exact congrArg (fin Try.prog [.tmp 8]) (F_l09_MapsCounts_eq (evFn cx0 ext0 n) n bx.length a0 a1 a2 a3 bx)

/-- scupper/maps.First -/
def kp_maps_First : Option (List Nat) := some [0, 1, 2, 3, 4, 5, 8, 9, 14]
noncomputable def c_maps_First : Code := Try.f8.body.getD .skip
noncomputable def F_maps_First (E : FnA) (_n _n0 : Nat) (a0 a1 a2 a3 : AV) (bx : Bx) : Option (Ex × S) :=
  (boxA bx a0).bind fun r1 =>
  (boxA r1.2 a1).bind fun r2 =>
  (pv r2.2 (loadA Try.prog 25 r2.2 r2.1)).bind fun r3 =>
  (callA E md0 r3.2 26 [r3.1, a2]).bind fun r4 =>
  (pv r4.2 (binA Try.prog .eql 3 r4.1 (.v (Go.Value.int Go.IntKind.i64 0)))).bind fun r5 =>
  condA r5.1 (some (.ret, ⟨[(8, (.v (Go.Value.int Go.IntKind.i64 (-1)))), (14, r5.1), (9, r4.1), (8, (.v (Go.Value.int Go.IntKind.i64 0))), (5, r2.1), (4, r1.1), (0, a0), (1, a1), (2, a2), (3, a3)], r5.2⟩)) ((pv r5.2 (loadA Try.prog 23 r5.2 r1.1)).bind fun r6 =>
  (callA E md0 r6.2 28 [r6.1, a2]).bind fun r7 =>
  (callA E md0 r7.2 27 [r7.1, a3, r4.1]).bind fun r8 =>
  some (.ret, ⟨[(8, r8.1), (14, r5.1), (9, r4.1), (8, (.v (Go.Value.int Go.IntKind.i64 0))), (5, r2.1), (4, r1.1), (0, a0), (1, a1), (2, a2), (3, a3)], r8.2⟩))
theorem c_maps_First_eq : Try.f8.body = some c_maps_First := by kernel_rfl
theorem d_maps_First : drawsOk Try.prog md0 c_maps_First = true := by kernel_rfl
theorem F_maps_First_eq (E : FnA) (n n0 : Nat) (a0 a1 a2 a3 : AV) (bx : Bx) : evK Try.prog md0 E 21 kp_maps_First n n0 c_maps_First ⟨[(0, a0), (1, a1), (2, a2), (3, a3)], bx⟩ (fun s => some (.normal, s)) (fun i s => some (.exit i, s)) = F_maps_First E n n0 a0 a1 a2 a3 bx := by kernel_rfl

theorem E_maps_First (n : Nat) (a0 a1 a2 a3 : AV) (bx : Bx) : evFn cx0 ext0 (n + 1) 8 [a0, a1, a2, a3] bx = fin Try.prog [.tmp 8] (F_maps_First (evFn cx0 ext0 n) n bx.length a0 a1 a2 a3 bx) := by
  rw [evFn_eq2 (cx := cx0) (c := c_maps_First) rfl Try.func8 c_maps_First_eq (of_decide_eq_true (by kernel_rfl)) d_maps_First (of_decide_eq_true (by kernel_rfl))]
  exact congrArg (fin Try.prog [.tmp 8]) (F_maps_First_eq (evFn cx0 ext0 n) n bx.length a0 a1 a2 a3 bx)

/-- scupper/maps.Taken -/
def kp_maps_Taken : Option (List Nat) := some [0, 1, 2, 3, 6, 7, 8, 9, 17]
noncomputable def c_maps_Taken : Code := Try.f9.body.getD .skip
noncomputable def F_maps_Taken (E : FnA) (_n _n0 : Nat) (a0 a1 a2 : AV) (bx : Bx) : Option (Ex × S) :=
  (boxA bx a0).bind fun r1 =>
  (callA E md0 r1.2 29 [a1, a2]).bind fun r2 =>
  (pv r2.2 (tupA r2.1 0)).bind fun r3 =>
  (pv r3.2 (tupA r2.1 1)).bind fun r4 =>
  (pv r4.2 (binA Try.prog .neq 27 r4.1 (.v (Go.Value.int Go.IntKind.i64 0)))).bind fun r5 =>
  condA r5.1 (some (.ret, ⟨[(7, r4.1), (6, (.v (Go.Value.bool false))), (17, r5.1), (9, r4.1), (8, r3.1), (7, (.v (Go.Value.int Go.IntKind.i64 0))), (6, (.v (Go.Value.bool false))), (3, r1.1), (0, a0), (1, a1), (2, a2)], r5.2⟩)) ((pv r5.2 (sliceA Try.prog r5.2 23 r1.1 none none none)).bind fun r6 =>
  (callA E md0 r6.2 30 [r6.1, r3.1]).bind fun r7 =>
  (pv r7.2 (tupA r7.1 0)).bind fun r8 =>
  (pv r8.2 (tupA r7.1 1)).bind fun r9 =>
  some (.ret, ⟨[(7, r9.1), (6, r8.1), (17, r5.1), (9, r4.1), (8, r3.1), (7, (.v (Go.Value.int Go.IntKind.i64 0))), (6, (.v (Go.Value.bool false))), (3, r1.1), (0, a0), (1, a1), (2, a2)], r9.2⟩))
theorem c_maps_Taken_eq : Try.f9.body = some c_maps_Taken := by kernel_rfl
theorem d_maps_Taken : drawsOk Try.prog md0 c_maps_Taken = true := by kernel_rfl
theorem F_maps_Taken_eq (E : FnA) (n n0 : Nat) (a0 a1 a2 : AV) (bx : Bx) : evK Try.prog md0 E 24 kp_maps_Taken n n0 c_maps_Taken ⟨[(0, a0), (1, a1), (2, a2)], bx⟩ (fun s => some (.normal, s)) (fun i s => some (.exit i, s)) = F_maps_Taken E n n0 a0 a1 a2 bx := by kernel_rfl

theorem E_maps_Taken (n : Nat) (a0 a1 a2 : AV) (bx : Bx) : evFn cx0 ext0 (n + 1) 9 [a0, a1, a2] bx = fin Try.prog [.tmp 6, .tmp 7] (F_maps_Taken (evFn cx0 ext0 n) n bx.length a0 a1 a2 bx) := by
  rw [evFn_eq2 (cx := cx0) (c := c_maps_Taken) rfl Try.func9 c_maps_Taken_eq (of_decide_eq_true (by kernel_rfl)) d_maps_Taken (of_decide_eq_true (by kernel_rfl))]
  exact congrArg (fin Try.prog [.tmp 6, .tmp 7]) (F_maps_Taken_eq (evFn cx0 ext0 n) n bx.length a0 a1 a2 bx)

/-- scupper/scupperref09.First -/
def kp_r09_First : Option (List Nat) := some [0, 1, 2, 3, 4, 5, 8, 9, 10, 18, 29]
noncomputable def c_r09_First : Code := Try.f10.body.getD .skip
noncomputable def L_r09_First_0 (E : FnA) (_n _n0 : Nat) (s : S) : Option (Ex × S) :=
  (pv s.bx (loadA Try.prog 25 s.bx (get s.env 5))).bind fun r13 =>
  (callA E md0 r13.2 31 [r13.1, (get s.env 2)]).bind fun r14 =>
  (pv r14.2 (binA Try.prog .lss 3 (get s.env 9) r14.1)).bind fun r15 =>
  condA r15.1 ((pv r15.2 (loadA Try.prog 23 r15.2 (get (prune kp_r09_First s.env) 4))).bind fun r16 =>
  (callA E md0 r16.2 19 [r16.1, (get (prune kp_r09_First s.env) 2), (get (prune kp_r09_First s.env) 9)]).bind fun r17 =>
  (pv r17.2 (tupA r17.1 0)).bind fun r18 =>
  (pv r18.2 (tupA r17.1 1)).bind fun r19 =>
  (pv r19.2 (unA .not r18.1)).bind fun r20 =>
  condA r20.1 (some (.ret, ⟨((8, (get (prune kp_r09_First (prune kp_r09_First (prune kp_r09_First s.env))) 9)) :: (29, r20.1) :: (10, r18.1) :: (18, r15.1) :: (prune kp_r09_First (prune kp_r09_First (prune kp_r09_First (prune kp_r09_First s.env))))), r20.2⟩)) ((pv r20.2 (binA Try.prog .add 3 (get (prune kp_r09_First (prune kp_r09_First (prune kp_r09_First s.env))) 9) (.v (Go.Value.int Go.IntKind.i64 1)))).bind fun r21 =>
  some (.normal, ⟨((9, r21.1) :: (29, r20.1) :: (10, r18.1) :: (18, r15.1) :: (prune kp_r09_First (prune kp_r09_First (prune kp_r09_First (prune kp_r09_First s.env))))), r21.2⟩))) (some (.exit 0, ⟨((18, r15.1) :: (prune kp_r09_First s.env)), r15.2⟩))
noncomputable def B_r09_First_0 (E : FnA) (_n _n0 : Nat) (x9 x8 x5 x4 x0 x1 x2 x3 : AV) (y : Bx) : Option (Ex × S) :=
  (pv y (loadA Try.prog 25 y x5)).bind fun r4 =>
  (callA E md0 r4.2 31 [r4.1, x2]).bind fun r5 =>
  (pv r5.2 (binA Try.prog .lss 3 x9 r5.1)).bind fun r6 =>
  condA r6.1 ((pv r6.2 (loadA Try.prog 23 r6.2 x4)).bind fun r7 =>
  (callA E md0 r7.2 19 [r7.1, x2, x9]).bind fun r8 =>
  (pv r8.2 (tupA r8.1 0)).bind fun r9 =>
  (pv r9.2 (tupA r8.1 1)).bind fun r10 =>
  (pv r10.2 (unA .not r9.1)).bind fun r11 =>
  condA r11.1 (some (.ret, ⟨[(8, x9), (29, r11.1), (10, r9.1), (18, r6.1), (9, x9), (8, x8), (5, x5), (4, x4), (0, x0), (1, x1), (2, x2), (3, x3)], r11.2⟩)) ((pv r11.2 (binA Try.prog .add 3 x9 (.v (Go.Value.int Go.IntKind.i64 1)))).bind fun r12 =>
  some (.normal, ⟨[(9, r12.1), (29, r11.1), (10, r9.1), (18, r6.1), (9, x9), (8, x8), (5, x5), (4, x4), (0, x0), (1, x1), (2, x2), (3, x3)], r12.2⟩))) (some (.exit 0, ⟨[(18, r6.1), (9, x9), (8, x8), (5, x5), (4, x4), (0, x0), (1, x1), (2, x2), (3, x3)], r6.2⟩))
theorem L_r09_First_0_lit {E : FnA} {n n0 : Nat} {x9 x8 x5 x4 x0 x1 x2 x3 : AV} {y : Bx} {Q : Ex → S → Prop} (h : Ends (B_r09_First_0 E n n0 x9 x8 x5 x4 x0 x1 x2 x3 y) Q) : Ends (L_r09_First_0 E n n0 ⟨[(9, x9), (8, x8), (5, x5), (4, x4), (0, x0), (1, x1), (2, x2), (3, x3)], y⟩) Q := by
  rw [show L_r09_First_0 E n n0 ⟨[(9, x9), (8, x8), (5, x5), (4, x4), (0, x0), (1, x1), (2, x2), (3, x3)], y⟩ = B_r09_First_0 E n n0 x9 x8 x5 x4 x0 x1 x2 x3 y by kernel_rfl]
  exact h
noncomputable def K_r09_First_0 (_E : FnA) (_n _n0 : Nat) (t : S) : Option (Ex × S) :=
  some (.ret, ⟨((8, (.v (Go.Value.int Go.IntKind.i64 (-1)))) :: (prune kp_r09_First t.env)), t.bx⟩)
noncomputable def X_r09_First_0 (_E : FnA) (_n _n0 : Nat) (i : Nat) (t : S) : Option (Ex × S) :=
  if i = 0 then some (.ret, ⟨((8, (.v (Go.Value.int Go.IntKind.i64 (-1)))) :: (prune kp_r09_First t.env)), t.bx⟩) else some (.exit i, ⟨t.env, t.bx⟩)
noncomputable def X_r09_First_0_0 (_E : FnA) (_n _n0 : Nat) (x18 x9 x8 x5 x4 x0 x1 x2 x3 : AV) (y : Bx) : Option (Ex × S) :=
  some (.ret, ⟨[(8, (.v (Go.Value.int Go.IntKind.i64 (-1)))), (18, x18), (9, x9), (8, x8), (5, x5), (4, x4), (0, x0), (1, x1), (2, x2), (3, x3)], y⟩)
theorem X_r09_First_0_0_lit {E : FnA} {n n0 : Nat} {x18 x9 x8 x5 x4 x0 x1 x2 x3 : AV} {y : Bx} {Q : Ex → S → Prop} (h : Ends (X_r09_First_0_0 E n n0 x18 x9 x8 x5 x4 x0 x1 x2 x3 y) Q) : Ends (X_r09_First_0 E n n0 0 ⟨[(18, x18), (9, x9), (8, x8), (5, x5), (4, x4), (0, x0), (1, x1), (2, x2), (3, x3)], y⟩) Q := by
  rw [show X_r09_First_0 E n n0 0 ⟨[(18, x18), (9, x9), (8, x8), (5, x5), (4, x4), (0, x0), (1, x1), (2, x2), (3, x3)], y⟩ = X_r09_First_0_0 E n n0 x18 x9 x8 x5 x4 x0 x1 x2 x3 y by kernel_rfl]
  exact h
noncomputable def F_r09_First (E : FnA) (n n0 : Nat) (a0 a1 a2 a3 : AV) (bx : Bx) : Option (Ex × S) :=
  (boxA bx a0).bind fun r1 =>
  (boxA r1.2 a1).bind fun r2 =>
  (pv r2.2 (minL true a3 [(.v (Go.Value.int Go.IntKind.i64 0))])).bind fun r3 =>
  exitA (iter ⟨[(9, r3.1), (8, (.v (Go.Value.int Go.IntKind.i64 0))), (5, r2.1), (4, r1.1), (0, a0), (1, a1), (2, a2), (3, a3)], r3.2⟩ (L_r09_First_0 E n n0) n ⟨[(9, r3.1), (8, (.v (Go.Value.int Go.IntKind.i64 0))), (5, r2.1), (4, r1.1), (0, a0), (1, a1), (2, a2), (3, a3)], r3.2⟩) (K_r09_First_0 E n n0) (X_r09_First_0 E n n0)
theorem c_r09_First_eq : Try.f10.body = some c_r09_First := by kernel_rfl
theorem d_r09_First : drawsOk Try.prog md0 c_r09_First = true := by kernel_rfl
theorem F_r09_First_eq (E : FnA) (n n0 : Nat) (a0 a1 a2 a3 : AV) (bx : Bx) : evK Try.prog md0 E 31 kp_r09_First n n0 c_r09_First ⟨[(0, a0), (1, a1), (2, a2), (3, a3)], bx⟩ (fun s => some (.normal, s)) (fun i s => some (.exit i, s)) = F_r09_First E n n0 a0 a1 a2 a3 bx := by kernel_rfl

theorem E_r09_First (n : Nat) (a0 a1 a2 a3 : AV) (bx : Bx) : evFn cx0 ext0 (n + 1) 10 [a0, a1, a2, a3] bx = fin Try.prog [.tmp 8] (F_r09_First (evFn cx0 ext0 n) n bx.length a0 a1 a2 a3 bx) := by
  rw [evFn_eq2 (cx := cx0) (c := c_r09_First) rfl Try.func10 c_r09_First_eq (of_decide_eq_true (by kernel_rfl)) d_r09_First (of_decide_eq_true (by kernel_rfl))]
  exact congrArg (fin Try.prog [.tmp 8]) (F_r09_First_eq (evFn cx0 ext0 n) n bx.length a0 a1 a2 a3 bx)

/-- scupper/scupperlaw09.works -/
def kp_l09_works : Option (List Nat) := some [0, 1, 2, 3, 4]
noncomputable def c_l09_works : Code := Try.f11.body.getD .skip
noncomputable def F_l09_works (E : FnA) (_n _n0 : Nat) (bx : Bx) : Option (Ex × S) :=
  (pv bx (buildA Try.prog 23 [])).bind fun r1 =>
  (callA E md0 r1.2 13 [r1.1, (.v (Go.Value.int Go.IntKind.i64 4)), (.v (Go.Value.int Go.IntKind.i64 9)), (.v (Go.Value.bool true))]).bind fun r2 =>
  (pv r2.2 (tupA r2.1 0)).bind fun r3 =>
  (pv r3.2 (tupA r2.1 1)).bind fun r4 =>
  (allocA Try.prog r4.2 23).bind fun r5 =>
  (stA Try.prog 23 r5.2 r5.1 r3.1).bind fun r6 =>
  (pv r6.2 (loadA Try.prog 23 r6.2 r5.1)).bind fun r7 =>
  (callA E md0 r7.2 9 [r7.1, (.v (Go.Value.int Go.IntKind.i64 4)), (.v (Go.Value.int Go.IntKind.i64 9))]).bind fun r8 =>
  (pv r8.2 (tupA r8.1 0)).bind fun r9 =>
  (pv r9.2 (tupA r8.1 1)).bind fun r10 =>
  (pv r10.2 (binA Try.prog .eql 27 r4.1 (.v (Go.Value.int Go.IntKind.i64 0)))).bind fun r11 =>
  (gsel true r11.2 (pv r11.2 (indexAddrA Try.prog 23 r5.1 (.v (Go.Value.int Go.IntKind.i64 17)))) r11.1).bind fun r12 =>
  (gsel true r12.2 (pv r12.2 (loadA Try.prog 5 r12.2 r12.1)) r11.1).bind fun r13 =>
  (gsel true r13.2 (pv r13.2 (binA Try.prog .eql 5 r13.1 (.v (Go.Value.int Go.IntKind.u8 2)))) r11.1).bind fun r14 =>
  (pv r14.2 (pickA r11.1 r14.1 (.v (Go.Value.bool false)))).bind fun r15 =>
  (gsel true r15.2 (some (r9.1, r15.2)) r15.1).bind fun r16 =>
  (pv r16.2 (pickA r15.1 r16.1 (.v (Go.Value.bool false)))).bind fun r17 =>
  (gsel true r17.2 (some (r10.1, r17.2)) r17.1).bind fun r18 =>
  (gsel true r18.2 (pv r18.2 (binA Try.prog .eql 27 r18.1 (.v (Go.Value.int Go.IntKind.i64 0)))) r17.1).bind fun r19 =>
  (pv r19.2 (pickA r17.1 r19.1 (.v (Go.Value.bool false)))).bind fun r20 =>
  (gsel true r20.2 (pv r20.2 (buildA Try.prog 23 [])) r20.1).bind fun r21 =>
  (gsel true r21.2 (pv r21.2 (buildA Try.prog 25 [(0, (.v (Go.Value.int Go.IntKind.i64 1))), (1, (.v (Go.Value.int Go.IntKind.i64 1))), (2, (.v (Go.Value.int Go.IntKind.i64 4)))])) r20.1).bind fun r22 =>
  (gsel true r22.2 (callA E md0 r22.2 8 [r21.1, r22.1, (.v (Go.Value.int Go.IntKind.i64 0)), (.v (Go.Value.int Go.IntKind.i64 3))]) r20.1).bind fun r23 =>
  (gsel true r23.2 (pv r23.2 (binA Try.prog .eql 3 r23.1 (.v (Go.Value.int Go.IntKind.i64 3)))) r20.1).bind fun r24 =>
  (pv r24.2 (pickA r20.1 r24.1 (.v (Go.Value.bool false)))).bind fun r25 =>
  some (.ret, ⟨[(0, r25.1), (4, r10.1), (3, r9.1), (2, r4.1), (1, r5.1), (0, (.v (Go.Value.bool false)))], r25.2⟩)
theorem c_l09_works_eq : Try.f11.body = some c_l09_works := by kernel_rfl
theorem d_l09_works : drawsOk Try.prog md0 c_l09_works = true := by kernel_rfl
theorem F_l09_works_eq (E : FnA) (n n0 : Nat) (bx : Bx) : evK Try.prog md0 E 35 kp_l09_works n n0 c_l09_works ⟨[], bx⟩ (fun s => some (.normal, s)) (fun i s => some (.exit i, s)) = F_l09_works E n n0  bx := by kernel_rfl

theorem E_l09_works (n : Nat) (bx : Bx) : evFn cx0 ext0 (n + 1) 11 [] bx = fin Try.prog [.tmp 0] (F_l09_works (evFn cx0 ext0 n) n bx.length  bx) := by
  rw [evFn_eq2 (cx := cx0) (c := c_l09_works) rfl Try.func11 c_l09_works_eq (of_decide_eq_true (by kernel_rfl)) d_l09_works (of_decide_eq_true (by kernel_rfl))]
  exact congrArg (fin Try.prog [.tmp 0]) (F_l09_works_eq (evFn cx0 ext0 n) n bx.length  bx)

/-- scupper/scupperbase.Among -/
def kp_base_Among : Option (List Nat) := some [0, 1, 4, 6]
noncomputable def c_base_Among : Code := Try.f12.body.getD .skip
noncomputable def F_base_Among (_E : FnA) (_n _n0 : Nat) (a0 a1 : AV) (bx : Bx) : Option (Ex × S) :=
  (pv bx (binA Try.prog .lss 3 a1 (.v (Go.Value.int Go.IntKind.i64 1)))).bind fun r1 =>
  condA r1.1 (some (.ret, ⟨[(4, (.v (Go.Value.int Go.IntKind.i64 0))), (6, r1.1), (4, (.v (Go.Value.int Go.IntKind.i64 0))), (0, a0), (1, a1)], r1.2⟩)) ((convA Try.prog r1.2 3 50 a0).bind fun r2 =>
  (convA Try.prog r2.2 3 50 a1).bind fun r3 =>
  (pv r3.2 (binA Try.prog .rem 50 r2.1 r3.1)).bind fun r4 =>
  (convA Try.prog r4.2 50 3 r4.1).bind fun r5 =>
  some (.ret, ⟨[(4, r5.1), (6, r1.1), (4, (.v (Go.Value.int Go.IntKind.i64 0))), (0, a0), (1, a1)], r5.2⟩))
theorem c_base_Among_eq : Try.f12.body = some c_base_Among := by kernel_rfl
theorem d_base_Among : drawsOk Try.prog md0 c_base_Among = true := by kernel_rfl
theorem F_base_Among_eq (E : FnA) (n n0 : Nat) (a0 a1 : AV) (bx : Bx) : evK Try.prog md0 E 13 kp_base_Among n n0 c_base_Among ⟨[(0, a0), (1, a1)], bx⟩ (fun s => some (.normal, s)) (fun i s => some (.exit i, s)) = F_base_Among E n n0 a0 a1 bx := by kernel_rfl

theorem E_base_Among (n : Nat) (a0 a1 : AV) (bx : Bx) : evFn cx0 ext0 (n + 1) 12 [a0, a1] bx = fin Try.prog [.tmp 4] (F_base_Among (evFn cx0 ext0 n) n bx.length a0 a1 bx) := by
  rw [evFn_eq2 (cx := cx0) (c := c_base_Among) rfl Try.func12 c_base_Among_eq (of_decide_eq_true (by kernel_rfl)) d_base_Among (of_decide_eq_true (by kernel_rfl))]
  exact congrArg (fin Try.prog [.tmp 4]) (F_base_Among_eq (evFn cx0 ext0 n) n bx.length a0 a1 bx)

/-- scupper/maps.With -/
def kp_maps_With : Option (List Nat) := some [0, 1, 2, 3, 4, 8, 9, 10, 11, 12, 20]
noncomputable def c_maps_With : Code := Try.f13.body.getD .skip
noncomputable def F_maps_With (E : FnA) (_n _n0 : Nat) (a0 a1 a2 a3 : AV) (bx : Bx) : Option (Ex × S) :=
  (boxA bx a0).bind fun r1 =>
  (allocA Try.prog r1.2 23).bind fun r2 =>
  (callA E md0 r2.2 29 [a1, a2]).bind fun r3 =>
  (pv r3.2 (tupA r3.1 0)).bind fun r4 =>
  (pv r4.2 (tupA r3.1 1)).bind fun r5 =>
  (pv r5.2 (binA Try.prog .neq 27 r5.1 (.v (Go.Value.int Go.IntKind.i64 0)))).bind fun r6 =>
  condA r6.1 ((pv r6.2 (buildA Try.prog 23 [])).bind fun r7 =>
  (stA Try.prog 23 r7.2 r2.1 r7.1).bind fun r8 =>
  some (.ret, ⟨[(9, r5.1), (20, r6.1), (11, r5.1), (10, r4.1), (9, (.v (Go.Value.int Go.IntKind.i64 0))), (8, r2.1), (4, r1.1), (0, a0), (1, a1), (2, a2), (3, a3)], r8.2⟩)) ((pv r6.2 (sliceA Try.prog r6.2 23 r1.1 none none none)).bind fun r9 =>
  (callA E md0 r9.2 32 [r9.1, r4.1, a3]).bind fun r10 =>
  (pv r10.2 (tupA r10.1 0)).bind fun r11 =>
  (pv r11.2 (tupA r10.1 1)).bind fun r12 =>
  (pv r12.2 (arrPtrA Try.prog 23 r11.1)).bind fun r13 =>
  (pv r13.2 (loadA Try.prog 23 r13.2 r13.1)).bind fun r14 =>
  (stA Try.prog 23 r14.2 r2.1 r14.1).bind fun r15 =>
  some (.ret, ⟨[(9, r12.1), (11, r12.1), (12, r11.1), (20, r6.1), (11, r5.1), (10, r4.1), (9, (.v (Go.Value.int Go.IntKind.i64 0))), (8, r2.1), (4, r1.1), (0, a0), (1, a1), (2, a2), (3, a3)], r15.2⟩))
theorem c_maps_With_eq : Try.f13.body = some c_maps_With := by kernel_rfl
theorem d_maps_With : drawsOk Try.prog md0 c_maps_With = true := by kernel_rfl
theorem F_maps_With_eq (E : FnA) (n n0 : Nat) (a0 a1 a2 a3 : AV) (bx : Bx) : evK Try.prog md0 E 34 kp_maps_With n n0 c_maps_With ⟨[(0, a0), (1, a1), (2, a2), (3, a3)], bx⟩ (fun s => some (.normal, s)) (fun i s => some (.exit i, s)) = F_maps_With E n n0 a0 a1 a2 a3 bx := by kernel_rfl

theorem E_maps_With (n : Nat) (a0 a1 a2 a3 : AV) (bx : Bx) : evFn cx0 ext0 (n + 1) 13 [a0, a1, a2, a3] bx = fin Try.prog [.cell 8 23, .tmp 9] (F_maps_With (evFn cx0 ext0 n) n bx.length a0 a1 a2 a3 bx) := by
  rw [evFn_eq2 (cx := cx0) (c := c_maps_With) rfl Try.func13 c_maps_With_eq (of_decide_eq_true (by kernel_rfl)) d_maps_With (of_decide_eq_true (by kernel_rfl))]
  exact congrArg (fin Try.prog [.cell 8 23, .tmp 9]) (F_maps_With_eq (evFn cx0 ext0 n) n bx.length a0 a1 a2 a3 bx)

/-- scupper/maps.Byte -/
def kp_maps_Byte : Option (List Nat) := some [0, 1, 4, 5, 6, 7]
noncomputable def c_maps_Byte : Code := Try.f14.body.getD .skip
noncomputable def F_maps_Byte (E : FnA) (_n _n0 : Nat) (a0 a1 : AV) (bx : Bx) : Option (Ex × S) :=
  (callA E md0 bx 29 [a0, a1]).bind fun r1 =>
  (pv r1.2 (tupA r1.1 0)).bind fun r2 =>
  (pv r2.2 (tupA r1.1 1)).bind fun r3 =>
  (pv r3.2 (binA Try.prog .quo 3 r2.1 (.v (Go.Value.int Go.IntKind.i64 8)))).bind fun r4 =>
  some (.ret, ⟨[(5, r3.1), (4, r4.1), (7, r3.1), (6, r2.1), (5, (.v (Go.Value.int Go.IntKind.i64 0))), (4, (.v (Go.Value.int Go.IntKind.i64 0))), (0, a0), (1, a1)], r4.2⟩)
theorem c_maps_Byte_eq : Try.f14.body = some c_maps_Byte := by kernel_rfl
theorem d_maps_Byte : drawsOk Try.prog md0 c_maps_Byte = true := by kernel_rfl
theorem F_maps_Byte_eq (E : FnA) (n n0 : Nat) (a0 a1 : AV) (bx : Bx) : evK Try.prog md0 E 17 kp_maps_Byte n n0 c_maps_Byte ⟨[(0, a0), (1, a1)], bx⟩ (fun s => some (.normal, s)) (fun i s => some (.exit i, s)) = F_maps_Byte E n n0 a0 a1 bx := by kernel_rfl

theorem E_maps_Byte (n : Nat) (a0 a1 : AV) (bx : Bx) : evFn cx0 ext0 (n + 1) 14 [a0, a1] bx = fin Try.prog [.tmp 4, .tmp 5] (F_maps_Byte (evFn cx0 ext0 n) n bx.length a0 a1 bx) := by
  rw [evFn_eq2 (cx := cx0) (c := c_maps_Byte) rfl Try.func14 c_maps_Byte_eq (of_decide_eq_true (by kernel_rfl)) d_maps_Byte (of_decide_eq_true (by kernel_rfl))]
  exact congrArg (fin Try.prog [.tmp 4, .tmp 5]) (F_maps_Byte_eq (evFn cx0 ext0 n) n bx.length a0 a1 bx)

/-- scupper/maps.Head -/
def kp_maps_Head : Option (List Nat) := some [0, 2, 3, 4, 5, 11]
noncomputable def c_maps_Head : Code := Try.f15.body.getD .skip
noncomputable def F_maps_Head (E : FnA) (_n _n0 : Nat) (a0 : AV) (bx : Bx) : Option (Ex × S) :=
  (allocA Try.prog bx 23).bind fun r1 =>
  (allocA Try.prog r1.2 23).bind fun r2 =>
  (pv r2.2 (binA Try.prog .lss 3 a0 (.v (Go.Value.int Go.IntKind.i64 0)))).bind fun r3 =>
  (gsel false r3.2 (some (a0, r3.2)) r3.1).bind fun r4 =>
  (gsel false r4.2 (pv r4.2 (binA Try.prog .geq 3 r4.1 (.v (Go.Value.int Go.IntKind.i64 8)))) r3.1).bind fun r5 =>
  (pv r5.2 (pickA r3.1 (.v (Go.Value.bool true)) r5.1)).bind fun r6 =>
  condA r6.1 ((pv r6.2 (loadA Try.prog 23 r6.2 r2.1)).bind fun r7 =>
  (stA Try.prog 23 r7.2 r1.1 r7.1).bind fun r8 =>
  some (.ret, ⟨[(3, (.v (Go.Value.int Go.IntKind.i64 2))), (11, r6.1), (4, r2.1), (3, (.v (Go.Value.int Go.IntKind.i64 0))), (2, r1.1), (0, a0)], r8.2⟩)) ((convA Try.prog r6.2 3 55 a0).bind fun r9 =>
  (callA E md0 r9.2 33 [r9.1]).bind fun r10 =>
  (allocA Try.prog r10.2 53).bind fun r11 =>
  (stA Try.prog 53 r11.2 r11.1 r10.1).bind fun r12 =>
  (pv r12.2 (sliceA Try.prog r12.2 23 r2.1 none none none)).bind fun r13 =>
  (pv r13.2 (sliceA Try.prog r13.2 53 r11.1 none none none)).bind fun r14 =>
  (copyA Try.prog r14.2 47 r13.1 r14.1).bind fun r15 =>
  (pv r15.2 (loadA Try.prog 23 r15.2 r2.1)).bind fun r16 =>
  (stA Try.prog 23 r16.2 r1.1 r16.1).bind fun r17 =>
  some (.ret, ⟨[(3, (.v (Go.Value.int Go.IntKind.i64 0))), (5, r11.1), (11, r6.1), (4, r2.1), (3, (.v (Go.Value.int Go.IntKind.i64 0))), (2, r1.1), (0, a0)], r17.2⟩))
theorem c_maps_Head_eq : Try.f15.body = some c_maps_Head := by kernel_rfl
theorem d_maps_Head : drawsOk Try.prog md0 c_maps_Head = true := by kernel_rfl
theorem F_maps_Head_eq (E : FnA) (n n0 : Nat) (a0 : AV) (bx : Bx) : evK Try.prog md0 E 20 kp_maps_Head n n0 c_maps_Head ⟨[(0, a0)], bx⟩ (fun s => some (.normal, s)) (fun i s => some (.exit i, s)) = F_maps_Head E n n0 a0 bx := by kernel_rfl

theorem E_maps_Head (n : Nat) (a0 : AV) (bx : Bx) : evFn cx0 ext0 (n + 1) 15 [a0] bx = fin Try.prog [.cell 2 23, .tmp 3] (F_maps_Head (evFn cx0 ext0 n) n bx.length a0 bx) := by
  rw [evFn_eq2 (cx := cx0) (c := c_maps_Head) rfl Try.func15 c_maps_Head_eq (of_decide_eq_true (by kernel_rfl)) d_maps_Head (of_decide_eq_true (by kernel_rfl))]
  exact congrArg (fin Try.prog [.cell 2 23, .tmp 3]) (F_maps_Head_eq (evFn cx0 ext0 n) n bx.length a0 bx)

/-- scupper/scupperref09.Head -/
def kp_r09_Head : Option (List Nat) := some [0, 2, 3, 4, 11]
noncomputable def c_r09_Head : Code := Try.f16.body.getD .skip
noncomputable def F_r09_Head (_E : FnA) (_n _n0 : Nat) (a0 : AV) (bx : Bx) : Option (Ex × S) :=
  (allocA Try.prog bx 23).bind fun r1 =>
  (pv r1.2 (buildA Try.prog 23 [])).bind fun r2 =>
  (allocA Try.prog r2.2 23).bind fun r3 =>
  (stA Try.prog 23 r3.2 r3.1 r2.1).bind fun r4 =>
  (pv r4.2 (binA Try.prog .lss 3 a0 (.v (Go.Value.int Go.IntKind.i64 0)))).bind fun r5 =>
  (gsel false r5.2 (some (a0, r5.2)) r5.1).bind fun r6 =>
  (gsel false r6.2 (pv r6.2 (binA Try.prog .gtr 3 r6.1 (.v (Go.Value.int Go.IntKind.i64 7)))) r5.1).bind fun r7 =>
  (pv r7.2 (pickA r5.1 (.v (Go.Value.bool true)) r7.1)).bind fun r8 =>
  condA r8.1 ((pv r8.2 (loadA Try.prog 23 r8.2 r3.1)).bind fun r9 =>
  (stA Try.prog 23 r9.2 r1.1 r9.1).bind fun r10 =>
  some (.ret, ⟨[(3, (.v (Go.Value.int Go.IntKind.i64 2))), (11, r8.1), (4, r3.1), (3, (.v (Go.Value.int Go.IntKind.i64 0))), (2, r1.1), (0, a0)], r10.2⟩)) ((convA Try.prog r8.2 3 5 a0).bind fun r11 =>
  (pv r11.2 (indexAddrA Try.prog 23 r3.1 (.v (Go.Value.int Go.IntKind.i64 0)))).bind fun r12 =>
  (stA Try.prog 5 r12.2 r12.1 r11.1).bind fun r13 =>
  (pv r13.2 (loadA Try.prog 23 r13.2 r3.1)).bind fun r14 =>
  (stA Try.prog 23 r14.2 r1.1 r14.1).bind fun r15 =>
  some (.ret, ⟨[(3, (.v (Go.Value.int Go.IntKind.i64 0))), (11, r8.1), (4, r3.1), (3, (.v (Go.Value.int Go.IntKind.i64 0))), (2, r1.1), (0, a0)], r15.2⟩))
theorem c_r09_Head_eq : Try.f16.body = some c_r09_Head := by kernel_rfl
theorem d_r09_Head : drawsOk Try.prog md0 c_r09_Head = true := by kernel_rfl
theorem F_r09_Head_eq (E : FnA) (n n0 : Nat) (a0 : AV) (bx : Bx) : evK Try.prog md0 E 17 kp_r09_Head n n0 c_r09_Head ⟨[(0, a0)], bx⟩ (fun s => some (.normal, s)) (fun i s => some (.exit i, s)) = F_r09_Head E n n0 a0 bx := by kernel_rfl

theorem E_r09_Head (n : Nat) (a0 : AV) (bx : Bx) : evFn cx0 ext0 (n + 1) 16 [a0] bx = fin Try.prog [.cell 2 23, .tmp 3] (F_r09_Head (evFn cx0 ext0 n) n bx.length a0 bx) := by
  rw [evFn_eq2 (cx := cx0) (c := c_r09_Head) rfl Try.func16 c_r09_Head_eq (of_decide_eq_true (by kernel_rfl)) d_r09_Head (of_decide_eq_true (by kernel_rfl))]
  exact congrArg (fin Try.prog [.cell 2 23, .tmp 3]) (F_r09_Head_eq (evFn cx0 ext0 n) n bx.length a0 bx)

/-- scupper/maps.HeadRight -/
def kp_maps_HeadRight : Option (List Nat) := some [0, 1, 2, 4, 5, 6]
noncomputable def c_maps_HeadRight : Code := Try.f17.body.getD .skip
noncomputable def F_maps_HeadRight (E : FnA) (_n _n0 : Nat) (a0 a1 : AV) (bx : Bx) : Option (Ex × S) :=
  (boxA bx a0).bind fun r1 =>
  (callA E md0 r1.2 15 [a1]).bind fun r2 =>
  (pv r2.2 (tupA r2.1 0)).bind fun r3 =>
  (pv r3.2 (tupA r2.1 1)).bind fun r4 =>
  (allocA Try.prog r4.2 23).bind fun r5 =>
  (stA Try.prog 23 r5.2 r5.1 r3.1).bind fun r6 =>
  (pv r6.2 (binA Try.prog .eql 27 r4.1 (.v (Go.Value.int Go.IntKind.i64 0)))).bind fun r7 =>
  (gsel true r7.2 (pv r7.2 (loadA Try.prog 23 r7.2 r1.1)) r7.1).bind fun r8 =>
  (gsel true r8.2 (pv r8.2 (loadA Try.prog 23 r8.2 r5.1)) r7.1).bind fun r9 =>
  (gsel true r9.2 (pv r9.2 (binA Try.prog .eql 23 r8.1 r9.1)) r7.1).bind fun r10 =>
  (pv r10.2 (pickA r7.1 r10.1 (.v (Go.Value.bool false)))).bind fun r11 =>
  some (.ret, ⟨[(4, r11.1), (6, r4.1), (5, r5.1), (4, (.v (Go.Value.bool false))), (2, r1.1), (0, a0), (1, a1)], r11.2⟩)
theorem c_maps_HeadRight_eq : Try.f17.body = some c_maps_HeadRight := by kernel_rfl
theorem d_maps_HeadRight : drawsOk Try.prog md0 c_maps_HeadRight = true := by kernel_rfl
theorem F_maps_HeadRight_eq (E : FnA) (n n0 : Nat) (a0 a1 : AV) (bx : Bx) : evK Try.prog md0 E 19 kp_maps_HeadRight n n0 c_maps_HeadRight ⟨[(0, a0), (1, a1)], bx⟩ (fun s => some (.normal, s)) (fun i s => some (.exit i, s)) = F_maps_HeadRight E n n0 a0 a1 bx := by kernel_rfl

theorem E_maps_HeadRight (n : Nat) (a0 a1 : AV) (bx : Bx) : evFn cx0 ext0 (n + 1) 17 [a0, a1] bx = fin Try.prog [.tmp 4] (F_maps_HeadRight (evFn cx0 ext0 n) n bx.length a0 a1 bx) := by
  rw [evFn_eq2 (cx := cx0) (c := c_maps_HeadRight) rfl Try.func17 c_maps_HeadRight_eq (of_decide_eq_true (by kernel_rfl)) d_maps_HeadRight (of_decide_eq_true (by kernel_rfl))]
  exact congrArg (fin Try.prog [.tmp 4]) (F_maps_HeadRight_eq (evFn cx0 ext0 n) n bx.length a0 a1 bx)

/-- scupper/scupperref09.HeadRight -/
def kp_r09_HeadRight : Option (List Nat) := some [0, 1, 2, 4, 5, 6]
noncomputable def c_r09_HeadRight : Code := Try.f18.body.getD .skip
noncomputable def F_r09_HeadRight (E : FnA) (_n _n0 : Nat) (a0 a1 : AV) (bx : Bx) : Option (Ex × S) :=
  (boxA bx a0).bind fun r1 =>
  (callA E md0 r1.2 16 [a1]).bind fun r2 =>
  (pv r2.2 (tupA r2.1 0)).bind fun r3 =>
  (pv r3.2 (tupA r2.1 1)).bind fun r4 =>
  (allocA Try.prog r4.2 23).bind fun r5 =>
  (stA Try.prog 23 r5.2 r5.1 r3.1).bind fun r6 =>
  (pv r6.2 (binA Try.prog .eql 27 r4.1 (.v (Go.Value.int Go.IntKind.i64 0)))).bind fun r7 =>
  (gsel true r7.2 (pv r7.2 (loadA Try.prog 23 r7.2 r1.1)) r7.1).bind fun r8 =>
  (gsel true r8.2 (pv r8.2 (loadA Try.prog 23 r8.2 r5.1)) r7.1).bind fun r9 =>
  (gsel true r9.2 (pv r9.2 (binA Try.prog .eql 23 r8.1 r9.1)) r7.1).bind fun r10 =>
  (pv r10.2 (pickA r7.1 r10.1 (.v (Go.Value.bool false)))).bind fun r11 =>
  some (.ret, ⟨[(4, r11.1), (6, r4.1), (5, r5.1), (4, (.v (Go.Value.bool false))), (2, r1.1), (0, a0), (1, a1)], r11.2⟩)
theorem c_r09_HeadRight_eq : Try.f18.body = some c_r09_HeadRight := by kernel_rfl
theorem d_r09_HeadRight : drawsOk Try.prog md0 c_r09_HeadRight = true := by kernel_rfl
theorem F_r09_HeadRight_eq (E : FnA) (n n0 : Nat) (a0 a1 : AV) (bx : Bx) : evK Try.prog md0 E 19 kp_r09_HeadRight n n0 c_r09_HeadRight ⟨[(0, a0), (1, a1)], bx⟩ (fun s => some (.normal, s)) (fun i s => some (.exit i, s)) = F_r09_HeadRight E n n0 a0 a1 bx := by kernel_rfl

theorem E_r09_HeadRight (n : Nat) (a0 a1 : AV) (bx : Bx) : evFn cx0 ext0 (n + 1) 18 [a0, a1] bx = fin Try.prog [.tmp 4] (F_r09_HeadRight (evFn cx0 ext0 n) n bx.length a0 a1 bx) := by
  rw [evFn_eq2 (cx := cx0) (c := c_r09_HeadRight) rfl Try.func18 c_r09_HeadRight_eq (of_decide_eq_true (by kernel_rfl)) d_r09_HeadRight (of_decide_eq_true (by kernel_rfl))]
  exact congrArg (fin Try.prog [.tmp 4]) (F_r09_HeadRight_eq (evFn cx0 ext0 n) n bx.length a0 a1 bx)

/-- scupper/scupperref09.Taken -/
def kp_r09_Taken : Option (List Nat) := some [0, 1, 2, 3, 6, 7, 8, 9, 17]
noncomputable def c_r09_Taken : Code := Try.f19.body.getD .skip
noncomputable def F_r09_Taken (E : FnA) (_n _n0 : Nat) (a0 a1 a2 : AV) (bx : Bx) : Option (Ex × S) :=
  (boxA bx a0).bind fun r1 =>
  (callA E md0 r1.2 34 [a1, a2]).bind fun r2 =>
  (pv r2.2 (tupA r2.1 0)).bind fun r3 =>
  (pv r3.2 (tupA r2.1 1)).bind fun r4 =>
  (pv r4.2 (unA .not r4.1)).bind fun r5 =>
  condA r5.1 (some (.ret, ⟨[(7, (.v (Go.Value.int Go.IntKind.i64 2))), (6, (.v (Go.Value.bool false))), (17, r5.1), (9, r4.1), (8, r3.1), (7, (.v (Go.Value.int Go.IntKind.i64 0))), (6, (.v (Go.Value.bool false))), (3, r1.1), (0, a0), (1, a1), (2, a2)], r5.2⟩)) ((pv r5.2 (sliceA Try.prog r5.2 23 r1.1 none none none)).bind fun r6 =>
  (callA E md0 r6.2 35 [r6.1, r3.1]).bind fun r7 =>
  (pv r7.2 (tupA r7.1 0)).bind fun r8 =>
  (pv r8.2 (tupA r7.1 1)).bind fun r9 =>
  some (.ret, ⟨[(7, r9.1), (6, r8.1), (17, r5.1), (9, r4.1), (8, r3.1), (7, (.v (Go.Value.int Go.IntKind.i64 0))), (6, (.v (Go.Value.bool false))), (3, r1.1), (0, a0), (1, a1), (2, a2)], r9.2⟩))
theorem c_r09_Taken_eq : Try.f19.body = some c_r09_Taken := by kernel_rfl
theorem d_r09_Taken : drawsOk Try.prog md0 c_r09_Taken = true := by kernel_rfl
theorem F_r09_Taken_eq (E : FnA) (n n0 : Nat) (a0 a1 a2 : AV) (bx : Bx) : evK Try.prog md0 E 23 kp_r09_Taken n n0 c_r09_Taken ⟨[(0, a0), (1, a1), (2, a2)], bx⟩ (fun s => some (.normal, s)) (fun i s => some (.exit i, s)) = F_r09_Taken E n n0 a0 a1 a2 bx := by kernel_rfl

theorem E_r09_Taken (n : Nat) (a0 a1 a2 : AV) (bx : Bx) : evFn cx0 ext0 (n + 1) 19 [a0, a1, a2] bx = fin Try.prog [.tmp 6, .tmp 7] (F_r09_Taken (evFn cx0 ext0 n) n bx.length a0 a1 a2 bx) := by
  rw [evFn_eq2 (cx := cx0) (c := c_r09_Taken) rfl Try.func19 c_r09_Taken_eq (of_decide_eq_true (by kernel_rfl)) d_r09_Taken (of_decide_eq_true (by kernel_rfl))]
  exact congrArg (fin Try.prog [.tmp 6, .tmp 7]) (F_r09_Taken_eq (evFn cx0 ext0 n) n bx.length a0 a1 a2 bx)

/-- scupper/scupperref09.With -/
def kp_r09_With : Option (List Nat) := some [0, 1, 2, 3, 4, 8, 9, 10, 11, 12, 21]
noncomputable def c_r09_With : Code := Try.f20.body.getD .skip
noncomputable def F_r09_With (E : FnA) (_n _n0 : Nat) (a0 a1 a2 a3 : AV) (bx : Bx) : Option (Ex × S) :=
  (boxA bx a0).bind fun r1 =>
  (allocA Try.prog r1.2 23).bind fun r2 =>
  (callA E md0 r2.2 34 [a1, a2]).bind fun r3 =>
  (pv r3.2 (tupA r3.1 0)).bind fun r4 =>
  (pv r4.2 (tupA r3.1 1)).bind fun r5 =>
  (pv r5.2 (unA .not r5.1)).bind fun r6 =>
  condA r6.1 ((pv r6.2 (buildA Try.prog 23 [])).bind fun r7 =>
  (stA Try.prog 23 r7.2 r2.1 r7.1).bind fun r8 =>
  some (.ret, ⟨[(9, (.v (Go.Value.int Go.IntKind.i64 2))), (21, r6.1), (11, r5.1), (10, r4.1), (9, (.v (Go.Value.int Go.IntKind.i64 0))), (8, r2.1), (4, r1.1), (0, a0), (1, a1), (2, a2), (3, a3)], r8.2⟩)) ((pv r6.2 (sliceA Try.prog r6.2 23 r1.1 none none none)).bind fun r9 =>
  (callA E md0 r9.2 36 [r9.1, r4.1, a3]).bind fun r10 =>
  (pv r10.2 (tupA r10.1 0)).bind fun r11 =>
  (pv r11.2 (tupA r10.1 1)).bind fun r12 =>
  (pv r12.2 (arrPtrA Try.prog 23 r11.1)).bind fun r13 =>
  (pv r13.2 (loadA Try.prog 23 r13.2 r13.1)).bind fun r14 =>
  (stA Try.prog 23 r14.2 r2.1 r14.1).bind fun r15 =>
  some (.ret, ⟨[(9, (.v (Go.Value.int Go.IntKind.i64 0))), (12, r11.1), (21, r6.1), (11, r5.1), (10, r4.1), (9, (.v (Go.Value.int Go.IntKind.i64 0))), (8, r2.1), (4, r1.1), (0, a0), (1, a1), (2, a2), (3, a3)], r15.2⟩))
theorem c_r09_With_eq : Try.f20.body = some c_r09_With := by kernel_rfl
theorem d_r09_With : drawsOk Try.prog md0 c_r09_With = true := by kernel_rfl
theorem F_r09_With_eq (E : FnA) (n n0 : Nat) (a0 a1 a2 a3 : AV) (bx : Bx) : evK Try.prog md0 E 33 kp_r09_With n n0 c_r09_With ⟨[(0, a0), (1, a1), (2, a2), (3, a3)], bx⟩ (fun s => some (.normal, s)) (fun i s => some (.exit i, s)) = F_r09_With E n n0 a0 a1 a2 a3 bx := by kernel_rfl

theorem E_r09_With (n : Nat) (a0 a1 a2 a3 : AV) (bx : Bx) : evFn cx0 ext0 (n + 1) 20 [a0, a1, a2, a3] bx = fin Try.prog [.cell 8 23, .tmp 9] (F_r09_With (evFn cx0 ext0 n) n bx.length a0 a1 a2 a3 bx) := by
  rw [evFn_eq2 (cx := cx0) (c := c_r09_With) rfl Try.func20 c_r09_With_eq (of_decide_eq_true (by kernel_rfl)) d_r09_With (of_decide_eq_true (by kernel_rfl))]
  exact congrArg (fin Try.prog [.cell 8 23, .tmp 9]) (F_r09_With_eq (evFn cx0 ext0 n) n bx.length a0 a1 a2 a3 bx)

/-- scupper/scupperref09.Byte -/
def kp_r09_Byte : Option (List Nat) := some [0, 1, 4, 5, 6, 7, 15]
noncomputable def c_r09_Byte : Code := Try.f21.body.getD .skip
noncomputable def F_r09_Byte (E : FnA) (_n _n0 : Nat) (a0 a1 : AV) (bx : Bx) : Option (Ex × S) :=
  (callA E md0 bx 34 [a0, a1]).bind fun r1 =>
  (pv r1.2 (tupA r1.1 0)).bind fun r2 =>
  (pv r2.2 (tupA r1.1 1)).bind fun r3 =>
  (pv r3.2 (unA .not r3.1)).bind fun r4 =>
  condA r4.1 (some (.ret, ⟨[(5, (.v (Go.Value.int Go.IntKind.i64 2))), (4, (.v (Go.Value.int Go.IntKind.i64 0))), (15, r4.1), (7, r3.1), (6, r2.1), (5, (.v (Go.Value.int Go.IntKind.i64 0))), (4, (.v (Go.Value.int Go.IntKind.i64 0))), (0, a0), (1, a1)], r4.2⟩)) ((pv r4.2 (binA Try.prog .quo 3 r2.1 (.v (Go.Value.int Go.IntKind.i64 8)))).bind fun r5 =>
  some (.ret, ⟨[(5, (.v (Go.Value.int Go.IntKind.i64 0))), (4, r5.1), (15, r4.1), (7, r3.1), (6, r2.1), (5, (.v (Go.Value.int Go.IntKind.i64 0))), (4, (.v (Go.Value.int Go.IntKind.i64 0))), (0, a0), (1, a1)], r5.2⟩))
theorem c_r09_Byte_eq : Try.f21.body = some c_r09_Byte := by kernel_rfl
theorem d_r09_Byte : drawsOk Try.prog md0 c_r09_Byte = true := by kernel_rfl
theorem F_r09_Byte_eq (E : FnA) (n n0 : Nat) (a0 a1 : AV) (bx : Bx) : evK Try.prog md0 E 18 kp_r09_Byte n n0 c_r09_Byte ⟨[(0, a0), (1, a1)], bx⟩ (fun s => some (.normal, s)) (fun i s => some (.exit i, s)) = F_r09_Byte E n n0 a0 a1 bx := by kernel_rfl

theorem E_r09_Byte (n : Nat) (a0 a1 : AV) (bx : Bx) : evFn cx0 ext0 (n + 1) 21 [a0, a1] bx = fin Try.prog [.tmp 4, .tmp 5] (F_r09_Byte (evFn cx0 ext0 n) n bx.length a0 a1 bx) := by
  rw [evFn_eq2 (cx := cx0) (c := c_r09_Byte) rfl Try.func21 c_r09_Byte_eq (of_decide_eq_true (by kernel_rfl)) d_r09_Byte (of_decide_eq_true (by kernel_rfl))]
  exact congrArg (fin Try.prog [.tmp 4, .tmp 5]) (F_r09_Byte_eq (evFn cx0 ext0 n) n bx.length a0 a1 bx)

/-- scupper/maps.Free -/
def kp_maps_Free : Option (List Nat) := some [0, 1, 2, 3, 4, 5, 6]
noncomputable def c_maps_Free : Code := Try.f22.body.getD .skip
noncomputable def F_maps_Free (E : FnA) (_n _n0 : Nat) (a0 a1 : AV) (bx : Bx) : Option (Ex × S) :=
  (boxA bx a0).bind fun r1 =>
  (boxA r1.2 a1).bind fun r2 =>
  (callV E md0 r2.2 [(.v (Go.Value.int Go.IntKind.i64 0))] (AV.fn 37 [] [r2.1, r1.1])).bind fun r3 =>
  (callV E md0 r3.2 [(.v (Go.Value.int Go.IntKind.i64 4))] (AV.fn 37 [] [r2.1, r1.1])).bind fun r4 =>
  some (.ret, ⟨[(5, r4.1), (4, r3.1), (6, (AV.fn 37 [] [r2.1, r1.1])), (5, (.v (Go.Value.int Go.IntKind.i64 0))), (4, (.v (Go.Value.int Go.IntKind.i64 0))), (3, r2.1), (2, r1.1), (0, a0), (1, a1)], r4.2⟩)
theorem c_maps_Free_eq : Try.f22.body = some c_maps_Free := by kernel_rfl
theorem d_maps_Free : drawsOk Try.prog md0 c_maps_Free = true := by kernel_rfl
theorem F_maps_Free_eq (E : FnA) (n n0 : Nat) (a0 a1 : AV) (bx : Bx) : evK Try.prog md0 E 12 kp_maps_Free n n0 c_maps_Free ⟨[(0, a0), (1, a1)], bx⟩ (fun s => some (.normal, s)) (fun i s => some (.exit i, s)) = F_maps_Free E n n0 a0 a1 bx := by kernel_rfl

theorem E_maps_Free (n : Nat) (a0 a1 : AV) (bx : Bx) : evFn cx0 ext0 (n + 1) 22 [a0, a1] bx = fin Try.prog [.tmp 4, .tmp 5] (F_maps_Free (evFn cx0 ext0 n) n bx.length a0 a1 bx) := by
  rw [evFn_eq2 (cx := cx0) (c := c_maps_Free) rfl Try.func22 c_maps_Free_eq (of_decide_eq_true (by kernel_rfl)) d_maps_Free (of_decide_eq_true (by kernel_rfl))]
  exact congrArg (fin Try.prog [.tmp 4, .tmp 5]) (F_maps_Free_eq (evFn cx0 ext0 n) n bx.length a0 a1 bx)

/-- scupper/scupperref09.Free -/
def kp_r09_Free : Option (List Nat) := some [0, 1, 2, 3, 4, 5]
noncomputable def c_r09_Free : Code := Try.f23.body.getD .skip
noncomputable def F_r09_Free (E : FnA) (_n _n0 : Nat) (a0 a1 : AV) (bx : Bx) : Option (Ex × S) :=
  (boxA bx a0).bind fun r1 =>
  (boxA r1.2 a1).bind fun r2 =>
  (pv r2.2 (loadA Try.prog 23 r2.2 r1.1)).bind fun r3 =>
  (pv r3.2 (loadA Try.prog 25 r3.2 r2.1)).bind fun r4 =>
  (callA E md0 r4.2 39 [r3.1, r4.1, (.v (Go.Value.int Go.IntKind.i64 0))]).bind fun r5 =>
  (pv r5.2 (loadA Try.prog 23 r5.2 r1.1)).bind fun r6 =>
  (pv r6.2 (loadA Try.prog 25 r6.2 r2.1)).bind fun r7 =>
  (callA E md0 r7.2 39 [r6.1, r7.1, (.v (Go.Value.int Go.IntKind.i64 4))]).bind fun r8 =>
  some (.ret, ⟨[(5, r8.1), (4, r5.1), (5, (.v (Go.Value.int Go.IntKind.i64 0))), (4, (.v (Go.Value.int Go.IntKind.i64 0))), (3, r2.1), (2, r1.1), (0, a0), (1, a1)], r8.2⟩)
theorem c_r09_Free_eq : Try.f23.body = some c_r09_Free := by kernel_rfl
theorem d_r09_Free : drawsOk Try.prog md0 c_r09_Free = true := by kernel_rfl
theorem F_r09_Free_eq (E : FnA) (n n0 : Nat) (a0 a1 : AV) (bx : Bx) : evK Try.prog md0 E 12 kp_r09_Free n n0 c_r09_Free ⟨[(0, a0), (1, a1)], bx⟩ (fun s => some (.normal, s)) (fun i s => some (.exit i, s)) = F_r09_Free E n n0 a0 a1 bx := by kernel_rfl

theorem E_r09_Free (n : Nat) (a0 a1 : AV) (bx : Bx) : evFn cx0 ext0 (n + 1) 23 [a0, a1] bx = fin Try.prog [.tmp 4, .tmp 5] (F_r09_Free (evFn cx0 ext0 n) n bx.length a0 a1 bx) := by
  rw [evFn_eq2 (cx := cx0) (c := c_r09_Free) rfl Try.func23 c_r09_Free_eq (of_decide_eq_true (by kernel_rfl)) d_r09_Free (of_decide_eq_true (by kernel_rfl))]
  exact congrArg (fin Try.prog [.tmp 4, .tmp 5]) (F_r09_Free_eq (evFn cx0 ext0 n) n bx.length a0 a1 bx)

/-- scupper/scupperref09.Clean -/
def kp_r09_Clean : Option (List Nat) := some [0, 1, 2, 3, 4, 5, 6, 7, 11, 13, 42]
noncomputable def c_r09_Clean : Code := Try.f25.body.getD .skip
noncomputable def L_r09_Clean_0 (E : FnA) (_n _n0 : Nat) (s : S) : Option (Ex × S) :=
  (pv s.bx (binA Try.prog .lss 3 (get s.env 5) (.v (Go.Value.int Go.IntKind.i64 432)))).bind fun r29 =>
  condA r29.1 ((pv r29.2 (fieldAddrA Try.prog 25 (get (prune kp_r09_Clean s.env) 3) 2)).bind fun r30 =>
  (pv r30.2 (loadA Try.prog 3 r30.2 r30.1)).bind fun r31 =>
  (pv r31.2 (binA Try.prog .lss 3 (get (prune kp_r09_Clean s.env) 5) r31.1)).bind fun r32 =>
  (gsel false r32.2 (some ((get (prune kp_r09_Clean s.env) 5), r32.2)) r32.1).bind fun r33 =>
  (gsel false r33.2 (pv r33.2 (binA Try.prog .geq 3 r33.1 (.v (Go.Value.int Go.IntKind.i64 128)))) r32.1).bind fun r34 =>
  (gsel false r34.2 (some (r34.1, r34.2)) r32.1).bind fun r35 =>
  (gsel true r35.2 (some ((get (prune kp_r09_Clean s.env) 5), r35.2)) r35.1).bind fun r36 =>
  (gsel true r36.2 (pv r36.2 (fieldAddrA Try.prog 25 (get (prune kp_r09_Clean s.env) 3) 1)) r35.1).bind fun r37 =>
  (gsel true r37.2 (pv r37.2 (loadA Try.prog 3 r37.2 r37.1)) r35.1).bind fun r38 =>
  (gsel true r38.2 (pv r38.2 (binA Try.prog .mul 3 (.v (Go.Value.int Go.IntKind.i64 3)) r38.1)) r35.1).bind fun r39 =>
  (gsel true r39.2 (pv r39.2 (binA Try.prog .add 3 (.v (Go.Value.int Go.IntKind.i64 128)) r39.1)) r35.1).bind fun r40 =>
  (gsel true r40.2 (pv r40.2 (binA Try.prog .lss 3 r36.1 r40.1)) r35.1).bind fun r41 =>
  (gsel false r41.2 (pv r41.2 (pickA r35.1 r41.1 (.v (Go.Value.bool false)))) r32.1).bind fun r42 =>
  (pv r42.2 (pickA r32.1 (.v (Go.Value.bool true)) r42.1)).bind fun r43 =>
  (pv r43.2 (sliceA Try.prog r43.2 23 (get (prune kp_r09_Clean (prune kp_r09_Clean s.env)) 2) none none none)).bind fun r44 =>
  (callA E md0 r44.2 35 [r44.1, (get (prune kp_r09_Clean (prune kp_r09_Clean s.env)) 5)]).bind fun r45 =>
  (pv r45.2 (tupA r45.1 0)).bind fun r46 =>
  (pv r46.2 (tupA r45.1 1)).bind fun r47 =>
  (gsel true r47.2 (some (r43.1, r47.2)) r46.1).bind fun r48 =>
  (gsel true r48.2 (pv r48.2 (unA .not r48.1)) r46.1).bind fun r49 =>
  (pv r49.2 (pickA r46.1 r49.1 (.v (Go.Value.bool false)))).bind fun r50 =>
  condA r50.1 (some (.ret, ⟨((4, (.v (Go.Value.bool false))) :: (42, r50.1) :: (7, r46.1) :: (6, r43.1) :: (13, r29.1) :: (prune kp_r09_Clean (prune kp_r09_Clean (prune kp_r09_Clean (prune kp_r09_Clean (prune kp_r09_Clean s.env)))))), r50.2⟩)) ((pv r50.2 (binA Try.prog .add 3 (get (prune kp_r09_Clean (prune kp_r09_Clean (prune kp_r09_Clean (prune kp_r09_Clean s.env)))) 5) (.v (Go.Value.int Go.IntKind.i64 1)))).bind fun r51 =>
  some (.normal, ⟨((5, r51.1) :: (42, r50.1) :: (7, r46.1) :: (6, r43.1) :: (13, r29.1) :: (prune kp_r09_Clean (prune kp_r09_Clean (prune kp_r09_Clean (prune kp_r09_Clean (prune kp_r09_Clean s.env)))))), r51.2⟩))) (some (.exit 0, ⟨((13, r29.1) :: (prune kp_r09_Clean s.env)), r29.2⟩))
noncomputable def B_r09_Clean_0 (E : FnA) (_n _n0 : Nat) (x5 x11 x4 x3 x2 x0 x1 : AV) (y : Bx) : Option (Ex × S) :=
  (pv y (binA Try.prog .lss 3 x5 (.v (Go.Value.int Go.IntKind.i64 432)))).bind fun r6 =>
  condA r6.1 ((pv r6.2 (fieldAddrA Try.prog 25 x3 2)).bind fun r7 =>
  (pv r7.2 (loadA Try.prog 3 r7.2 r7.1)).bind fun r8 =>
  (pv r8.2 (binA Try.prog .lss 3 x5 r8.1)).bind fun r9 =>
  (gsel false r9.2 (some (x5, r9.2)) r9.1).bind fun r10 =>
  (gsel false r10.2 (pv r10.2 (binA Try.prog .geq 3 r10.1 (.v (Go.Value.int Go.IntKind.i64 128)))) r9.1).bind fun r11 =>
  (gsel false r11.2 (some (r11.1, r11.2)) r9.1).bind fun r12 =>
  (gsel true r12.2 (some (x5, r12.2)) r12.1).bind fun r13 =>
  (gsel true r13.2 (pv r13.2 (fieldAddrA Try.prog 25 x3 1)) r12.1).bind fun r14 =>
  (gsel true r14.2 (pv r14.2 (loadA Try.prog 3 r14.2 r14.1)) r12.1).bind fun r15 =>
  (gsel true r15.2 (pv r15.2 (binA Try.prog .mul 3 (.v (Go.Value.int Go.IntKind.i64 3)) r15.1)) r12.1).bind fun r16 =>
  (gsel true r16.2 (pv r16.2 (binA Try.prog .add 3 (.v (Go.Value.int Go.IntKind.i64 128)) r16.1)) r12.1).bind fun r17 =>
  (gsel true r17.2 (pv r17.2 (binA Try.prog .lss 3 r13.1 r17.1)) r12.1).bind fun r18 =>
  (gsel false r18.2 (pv r18.2 (pickA r12.1 r18.1 (.v (Go.Value.bool false)))) r9.1).bind fun r19 =>
  (pv r19.2 (pickA r9.1 (.v (Go.Value.bool true)) r19.1)).bind fun r20 =>
  (pv r20.2 (sliceA Try.prog r20.2 23 x2 none none none)).bind fun r21 =>
  (callA E md0 r21.2 35 [r21.1, x5]).bind fun r22 =>
  (pv r22.2 (tupA r22.1 0)).bind fun r23 =>
  (pv r23.2 (tupA r22.1 1)).bind fun r24 =>
  (gsel true r24.2 (some (r20.1, r24.2)) r23.1).bind fun r25 =>
  (gsel true r25.2 (pv r25.2 (unA .not r25.1)) r23.1).bind fun r26 =>
  (pv r26.2 (pickA r23.1 r26.1 (.v (Go.Value.bool false)))).bind fun r27 =>
  condA r27.1 (some (.ret, ⟨[(4, (.v (Go.Value.bool false))), (42, r27.1), (7, r23.1), (6, r20.1), (13, r6.1), (5, x5), (11, x11), (4, x4), (3, x3), (2, x2), (0, x0), (1, x1)], r27.2⟩)) ((pv r27.2 (binA Try.prog .add 3 x5 (.v (Go.Value.int Go.IntKind.i64 1)))).bind fun r28 =>
  some (.normal, ⟨[(5, r28.1), (42, r27.1), (7, r23.1), (6, r20.1), (13, r6.1), (5, x5), (11, x11), (4, x4), (3, x3), (2, x2), (0, x0), (1, x1)], r28.2⟩))) (some (.exit 0, ⟨[(13, r6.1), (5, x5), (11, x11), (4, x4), (3, x3), (2, x2), (0, x0), (1, x1)], r6.2⟩))
theorem L_r09_Clean_0_lit {E : FnA} {n n0 : Nat} {x5 x11 x4 x3 x2 x0 x1 : AV} {y : Bx} {Q : Ex → S → Prop} (h : Ends (B_r09_Clean_0 E n n0 x5 x11 x4 x3 x2 x0 x1 y) Q) : Ends (L_r09_Clean_0 E n n0 ⟨[(5, x5), (11, x11), (4, x4), (3, x3), (2, x2), (0, x0), (1, x1)], y⟩) Q := by
  rw [show L_r09_Clean_0 E n n0 ⟨[(5, x5), (11, x11), (4, x4), (3, x3), (2, x2), (0, x0), (1, x1)], y⟩ = B_r09_Clean_0 E n n0 x5 x11 x4 x3 x2 x0 x1 y by kernel_rfl]
  exact h
noncomputable def K_r09_Clean_0 (_E : FnA) (_n _n0 : Nat) (t : S) : Option (Ex × S) :=
  some (.ret, ⟨((4, (.v (Go.Value.bool true))) :: (prune kp_r09_Clean t.env)), t.bx⟩)
noncomputable def X_r09_Clean_0 (_E : FnA) (_n _n0 : Nat) (i : Nat) (t : S) : Option (Ex × S) :=
  if i = 0 then some (.ret, ⟨((4, (.v (Go.Value.bool true))) :: (prune kp_r09_Clean t.env)), t.bx⟩) else some (.exit i, ⟨t.env, t.bx⟩)
noncomputable def X_r09_Clean_0_0 (_E : FnA) (_n _n0 : Nat) (x13 x5 x11 x4 x3 x2 x0 x1 : AV) (y : Bx) : Option (Ex × S) :=
  some (.ret, ⟨[(4, (.v (Go.Value.bool true))), (13, x13), (5, x5), (11, x11), (4, x4), (3, x3), (2, x2), (0, x0), (1, x1)], y⟩)
theorem X_r09_Clean_0_0_lit {E : FnA} {n n0 : Nat} {x13 x5 x11 x4 x3 x2 x0 x1 : AV} {y : Bx} {Q : Ex → S → Prop} (h : Ends (X_r09_Clean_0_0 E n n0 x13 x5 x11 x4 x3 x2 x0 x1 y) Q) : Ends (X_r09_Clean_0 E n n0 0 ⟨[(13, x13), (5, x5), (11, x11), (4, x4), (3, x3), (2, x2), (0, x0), (1, x1)], y⟩) Q := by
  rw [show X_r09_Clean_0 E n n0 0 ⟨[(13, x13), (5, x5), (11, x11), (4, x4), (3, x3), (2, x2), (0, x0), (1, x1)], y⟩ = X_r09_Clean_0_0 E n n0 x13 x5 x11 x4 x3 x2 x0 x1 y by kernel_rfl]
  exact h
noncomputable def F_r09_Clean (E : FnA) (n n0 : Nat) (a0 a1 : AV) (bx : Bx) : Option (Ex × S) :=
  (boxA bx a0).bind fun r1 =>
  (boxA r1.2 a1).bind fun r2 =>
  (pv r2.2 (loadA Try.prog 25 r2.2 r2.1)).bind fun r3 =>
  (callA E md0 r3.2 42 [r3.1]).bind fun r4 =>
  (pv r4.2 (binA Try.prog .neq 27 r4.1 (.v (Go.Value.int Go.IntKind.i64 0)))).bind fun r5 =>
  condA r5.1 (some (.ret, ⟨[(4, (.v (Go.Value.bool false))), (11, r5.1), (4, (.v (Go.Value.bool false))), (3, r2.1), (2, r1.1), (0, a0), (1, a1)], r5.2⟩)) (exitA (iter ⟨[(5, (.v (Go.Value.int Go.IntKind.i64 0))), (11, r5.1), (4, (.v (Go.Value.bool false))), (3, r2.1), (2, r1.1), (0, a0), (1, a1)], r5.2⟩ (L_r09_Clean_0 E n n0) n ⟨[(5, (.v (Go.Value.int Go.IntKind.i64 0))), (11, r5.1), (4, (.v (Go.Value.bool false))), (3, r2.1), (2, r1.1), (0, a0), (1, a1)], r5.2⟩) (K_r09_Clean_0 E n n0) (X_r09_Clean_0 E n n0))
theorem c_r09_Clean_eq : Try.f25.body = some c_r09_Clean := by kernel_rfl
theorem d_r09_Clean : drawsOk Try.prog md0 c_r09_Clean = true := by kernel_rfl
theorem F_r09_Clean_eq (E : FnA) (n n0 : Nat) (a0 a1 : AV) (bx : Bx) : evK Try.prog md0 E 43 kp_r09_Clean n n0 c_r09_Clean ⟨[(0, a0), (1, a1)], bx⟩ (fun s => some (.normal, s)) (fun i s => some (.exit i, s)) = F_r09_Clean E n n0 a0 a1 bx := by kernel_rfl

theorem E_r09_Clean (n : Nat) (a0 a1 : AV) (bx : Bx) : evFn cx0 ext0 (n + 1) 25 [a0, a1] bx = fin Try.prog [.tmp 4] (F_r09_Clean (evFn cx0 ext0 n) n bx.length a0 a1 bx) := by
  rw [evFn_eq2 (cx := cx0) (c := c_r09_Clean) rfl Try.func25 c_r09_Clean_eq (of_decide_eq_true (by kernel_rfl)) d_r09_Clean (of_decide_eq_true (by kernel_rfl))]
  exact congrArg (fin Try.prog [.tmp 4]) (F_r09_Clean_eq (evFn cx0 ext0 n) n bx.length a0 a1 bx)

/-- scupper/maps.many -/
def kp_maps_many : Option (List Nat) := some [0, 1, 2, 4, 5, 9, 14]
noncomputable def c_maps_many : Code := Try.f26.body.getD .skip
noncomputable def F_maps_many (E : FnA) (_n _n0 : Nat) (a0 a1 : AV) (bx : Bx) : Option (Ex × S) :=
  (boxA bx a0).bind fun r1 =>
  (pv r1.2 (loadA Try.prog 25 r1.2 r1.1)).bind fun r2 =>
  (callA E md0 r2.2 40 [r2.1]).bind fun r3 =>
  (pv r3.2 (binA Try.prog .neq 27 r3.1 (.v (Go.Value.int Go.IntKind.i64 0)))).bind fun r4 =>
  condA r4.1 (some (.ret, ⟨[(4, (.v (Go.Value.int Go.IntKind.i64 0))), (5, r4.1), (4, (.v (Go.Value.int Go.IntKind.i64 0))), (2, r1.1), (0, a0), (1, a1)], r4.2⟩)) ((pv r4.2 (binA Try.prog .eql 3 a1 (.v (Go.Value.int Go.IntKind.i64 0)))).bind fun r5 =>
  condA r5.1 ((pv r5.2 (fieldAddrA Try.prog 25 r1.1 2)).bind fun r6 =>
  (pv r6.2 (loadA Try.prog 3 r6.2 r6.1)).bind fun r7 =>
  some (.ret, ⟨[(4, r7.1), (9, r5.1), (5, r4.1), (4, (.v (Go.Value.int Go.IntKind.i64 0))), (2, r1.1), (0, a0), (1, a1)], r7.2⟩)) ((pv r5.2 (binA Try.prog .eql 3 a1 (.v (Go.Value.int Go.IntKind.i64 4)))).bind fun r8 =>
  condA r8.1 ((pv r8.2 (fieldAddrA Try.prog 25 r1.1 1)).bind fun r9 =>
  (pv r9.2 (loadA Try.prog 3 r9.2 r9.1)).bind fun r10 =>
  (pv r10.2 (binA Try.prog .mul 3 (.v (Go.Value.int Go.IntKind.i64 3)) r10.1)).bind fun r11 =>
  some (.ret, ⟨[(4, r11.1), (14, r8.1), (9, r5.1), (5, r4.1), (4, (.v (Go.Value.int Go.IntKind.i64 0))), (2, r1.1), (0, a0), (1, a1)], r11.2⟩)) (some (.ret, ⟨[(4, (.v (Go.Value.int Go.IntKind.i64 0))), (14, r8.1), (9, r5.1), (5, r4.1), (4, (.v (Go.Value.int Go.IntKind.i64 0))), (2, r1.1), (0, a0), (1, a1)], r8.2⟩))))
theorem c_maps_many_eq : Try.f26.body = some c_maps_many := by kernel_rfl
theorem d_maps_many : drawsOk Try.prog md0 c_maps_many = true := by kernel_rfl
theorem F_maps_many_eq (E : FnA) (n n0 : Nat) (a0 a1 : AV) (bx : Bx) : evK Try.prog md0 E 20 kp_maps_many n n0 c_maps_many ⟨[(0, a0), (1, a1)], bx⟩ (fun s => some (.normal, s)) (fun i s => some (.exit i, s)) = F_maps_many E n n0 a0 a1 bx := by kernel_rfl

theorem E_maps_many (n : Nat) (a0 a1 : AV) (bx : Bx) : evFn cx0 ext0 (n + 1) 26 [a0, a1] bx = fin Try.prog [.tmp 4] (F_maps_many (evFn cx0 ext0 n) n bx.length a0 a1 bx) := by
  rw [evFn_eq2 (cx := cx0) (c := c_maps_many) rfl Try.func26 c_maps_many_eq (of_decide_eq_true (by kernel_rfl)) d_maps_many (of_decide_eq_true (by kernel_rfl))]
  exact congrArg (fin Try.prog [.tmp 4]) (F_maps_many_eq (evFn cx0 ext0 n) n bx.length a0 a1 bx)

/-- scupper/num.First -/
def kp_num_First : Option (List Nat) := some [0, 1, 2, 6, 7, 8, 16, 26]
noncomputable def c_num_First : Code := Try.f27.body.getD .skip
noncomputable def L_num_First_0 (E : FnA) (_n _n0 : Nat) (s : S) : Option (Ex × S) :=
  (callA E md0 s.bx 43 [(get s.env 0), (get s.env 2)]).bind fun r9 =>
  (pv r9.2 (binA Try.prog .lss 3 (get s.env 7) r9.1)).bind fun r10 =>
  condA r10.1 ((callA E md0 r10.2 30 [(get (prune kp_num_First s.env) 0), (get (prune kp_num_First s.env) 7)]).bind fun r11 =>
  (pv r11.2 (tupA r11.1 0)).bind fun r12 =>
  (pv r12.2 (tupA r11.1 1)).bind fun r13 =>
  (pv r13.2 (unA .not r12.1)).bind fun r14 =>
  condA r14.1 (some (.ret, ⟨((6, (get (prune kp_num_First (prune kp_num_First (prune kp_num_First s.env))) 7)) :: (26, r14.1) :: (8, r12.1) :: (16, r10.1) :: (prune kp_num_First (prune kp_num_First (prune kp_num_First (prune kp_num_First s.env))))), r14.2⟩)) ((pv r14.2 (binA Try.prog .add 3 (get (prune kp_num_First (prune kp_num_First (prune kp_num_First s.env))) 7) (.v (Go.Value.int Go.IntKind.i64 1)))).bind fun r15 =>
  some (.normal, ⟨((7, r15.1) :: (26, r14.1) :: (8, r12.1) :: (16, r10.1) :: (prune kp_num_First (prune kp_num_First (prune kp_num_First (prune kp_num_First s.env))))), r15.2⟩))) (some (.exit 0, ⟨((16, r10.1) :: (prune kp_num_First s.env)), r10.2⟩))
noncomputable def B_num_First_0 (E : FnA) (_n _n0 : Nat) (x7 x6 x0 x1 x2 : AV) (y : Bx) : Option (Ex × S) :=
  (callA E md0 y 43 [x0, x2]).bind fun r2 =>
  (pv r2.2 (binA Try.prog .lss 3 x7 r2.1)).bind fun r3 =>
  condA r3.1 ((callA E md0 r3.2 30 [x0, x7]).bind fun r4 =>
  (pv r4.2 (tupA r4.1 0)).bind fun r5 =>
  (pv r5.2 (tupA r4.1 1)).bind fun r6 =>
  (pv r6.2 (unA .not r5.1)).bind fun r7 =>
  condA r7.1 (some (.ret, ⟨[(6, x7), (26, r7.1), (8, r5.1), (16, r3.1), (7, x7), (6, x6), (0, x0), (1, x1), (2, x2)], r7.2⟩)) ((pv r7.2 (binA Try.prog .add 3 x7 (.v (Go.Value.int Go.IntKind.i64 1)))).bind fun r8 =>
  some (.normal, ⟨[(7, r8.1), (26, r7.1), (8, r5.1), (16, r3.1), (7, x7), (6, x6), (0, x0), (1, x1), (2, x2)], r8.2⟩))) (some (.exit 0, ⟨[(16, r3.1), (7, x7), (6, x6), (0, x0), (1, x1), (2, x2)], r3.2⟩))
theorem L_num_First_0_lit {E : FnA} {n n0 : Nat} {x7 x6 x0 x1 x2 : AV} {y : Bx} {Q : Ex → S → Prop} (h : Ends (B_num_First_0 E n n0 x7 x6 x0 x1 x2 y) Q) : Ends (L_num_First_0 E n n0 ⟨[(7, x7), (6, x6), (0, x0), (1, x1), (2, x2)], y⟩) Q := by
  rw [show L_num_First_0 E n n0 ⟨[(7, x7), (6, x6), (0, x0), (1, x1), (2, x2)], y⟩ = B_num_First_0 E n n0 x7 x6 x0 x1 x2 y by kernel_rfl]
  exact h
noncomputable def K_num_First_0 (_E : FnA) (_n _n0 : Nat) (t : S) : Option (Ex × S) :=
  some (.ret, ⟨((6, (.v (Go.Value.int Go.IntKind.i64 (-1)))) :: (prune kp_num_First t.env)), t.bx⟩)
noncomputable def X_num_First_0 (_E : FnA) (_n _n0 : Nat) (i : Nat) (t : S) : Option (Ex × S) :=
  if i = 0 then some (.ret, ⟨((6, (.v (Go.Value.int Go.IntKind.i64 (-1)))) :: (prune kp_num_First t.env)), t.bx⟩) else some (.exit i, ⟨t.env, t.bx⟩)
noncomputable def X_num_First_0_0 (_E : FnA) (_n _n0 : Nat) (x16 x7 x6 x0 x1 x2 : AV) (y : Bx) : Option (Ex × S) :=
  some (.ret, ⟨[(6, (.v (Go.Value.int Go.IntKind.i64 (-1)))), (16, x16), (7, x7), (6, x6), (0, x0), (1, x1), (2, x2)], y⟩)
theorem X_num_First_0_0_lit {E : FnA} {n n0 : Nat} {x16 x7 x6 x0 x1 x2 : AV} {y : Bx} {Q : Ex → S → Prop} (h : Ends (X_num_First_0_0 E n n0 x16 x7 x6 x0 x1 x2 y) Q) : Ends (X_num_First_0 E n n0 0 ⟨[(16, x16), (7, x7), (6, x6), (0, x0), (1, x1), (2, x2)], y⟩) Q := by
  rw [show X_num_First_0 E n n0 0 ⟨[(16, x16), (7, x7), (6, x6), (0, x0), (1, x1), (2, x2)], y⟩ = X_num_First_0_0 E n n0 x16 x7 x6 x0 x1 x2 y by kernel_rfl]
  exact h
noncomputable def F_num_First (E : FnA) (n n0 : Nat) (a0 a1 a2 : AV) (bx : Bx) : Option (Ex × S) :=
  (pv bx (minL true a1 [(.v (Go.Value.int Go.IntKind.i64 0))])).bind fun r1 =>
  exitA (iter ⟨[(7, r1.1), (6, (.v (Go.Value.int Go.IntKind.i64 0))), (0, a0), (1, a1), (2, a2)], r1.2⟩ (L_num_First_0 E n n0) n ⟨[(7, r1.1), (6, (.v (Go.Value.int Go.IntKind.i64 0))), (0, a0), (1, a1), (2, a2)], r1.2⟩) (K_num_First_0 E n n0) (X_num_First_0 E n n0)
theorem c_num_First_eq : Try.f27.body = some c_num_First := by kernel_rfl
theorem d_num_First : drawsOk Try.prog md0 c_num_First = true := by kernel_rfl
theorem F_num_First_eq (E : FnA) (n n0 : Nat) (a0 a1 a2 : AV) (bx : Bx) : evK Try.prog md0 E 28 kp_num_First n n0 c_num_First ⟨[(0, a0), (1, a1), (2, a2)], bx⟩ (fun s => some (.normal, s)) (fun i s => some (.exit i, s)) = F_num_First E n n0 a0 a1 a2 bx := by kernel_rfl

theorem E_num_First (n : Nat) (a0 a1 a2 : AV) (bx : Bx) : evFn cx0 ext0 (n + 1) 27 [a0, a1, a2] bx = fin Try.prog [.tmp 6] (F_num_First (evFn cx0 ext0 n) n bx.length a0 a1 a2 bx) := by
  rw [evFn_eq2 (cx := cx0) (c := c_num_First) rfl Try.func27 c_num_First_eq (of_decide_eq_true (by kernel_rfl)) d_num_First (of_decide_eq_true (by kernel_rfl))]
  exact congrArg (fin Try.prog [.tmp 6]) (F_num_First_eq (evFn cx0 ext0 n) n bx.length a0 a1 a2 bx)

/-- scupper/num.Bit -/
def kp_num_Bit : Option (List Nat) := some [0, 1, 4, 5, 6, 7, 8]
noncomputable def c_num_Bit : Code := Try.f30.body.getD .skip
noncomputable def F_num_Bit (E : FnA) (_n _n0 : Nat) (a0 a1 : AV) (bx : Bx) : Option (Ex × S) :=
  (callA E md0 bx 44 [a0, a1]).bind fun r1 =>
  (pv r1.2 (tupA r1.1 0)).bind fun r2 =>
  (pv r2.2 (tupA r1.1 1)).bind fun r3 =>
  (pv r3.2 (tupA r1.1 2)).bind fun r4 =>
  (pv r4.2 (binA Try.prog .eql 27 r4.1 (.v (Go.Value.int Go.IntKind.i64 0)))).bind fun r5 =>
  (gsel true r5.2 (some (a0, r5.2)) r5.1).bind fun r6 =>
  (gsel true r6.2 (some (r2.1, r6.2)) r5.1).bind fun r7 =>
  (gsel true r7.2 (pv r7.2 (indexAddrA Try.prog 47 r6.1 r7.1)) r5.1).bind fun r8 =>
  (gsel true r8.2 (pv r8.2 (loadA Try.prog 5 r8.2 r8.1)) r5.1).bind fun r9 =>
  (gsel true r9.2 (some (r3.1, r9.2)) r5.1).bind fun r10 =>
  (gsel true r10.2 (pv r10.2 (binA Try.prog .and 5 r9.1 r10.1)) r5.1).bind fun r11 =>
  (gsel true r11.2 (pv r11.2 (binA Try.prog .neq 5 r11.1 (.v (Go.Value.int Go.IntKind.u8 0)))) r5.1).bind fun r12 =>
  (pv r12.2 (pickA r5.1 r12.1 (.v (Go.Value.bool false)))).bind fun r13 =>
  some (.ret, ⟨[(5, r4.1), (4, r13.1), (8, r4.1), (7, r3.1), (6, r2.1), (5, (.v (Go.Value.int Go.IntKind.i64 0))), (4, (.v (Go.Value.bool false))), (0, a0), (1, a1)], r13.2⟩)
theorem c_num_Bit_eq : Try.f30.body = some c_num_Bit := by kernel_rfl
theorem d_num_Bit : drawsOk Try.prog md0 c_num_Bit = true := by kernel_rfl
theorem F_num_Bit_eq (E : FnA) (n n0 : Nat) (a0 a1 : AV) (bx : Bx) : evK Try.prog md0 E 28 kp_num_Bit n n0 c_num_Bit ⟨[(0, a0), (1, a1)], bx⟩ (fun s => some (.normal, s)) (fun i s => some (.exit i, s)) = F_num_Bit E n n0 a0 a1 bx := by kernel_rfl

theorem E_num_Bit (n : Nat) (a0 a1 : AV) (bx : Bx) : evFn cx0 ext0 (n + 1) 30 [a0, a1] bx = fin Try.prog [.tmp 4, .tmp 5] (F_num_Bit (evFn cx0 ext0 n) n bx.length a0 a1 bx) := by
  rw [evFn_eq2 (cx := cx0) (c := c_num_Bit) rfl Try.func30 c_num_Bit_eq (of_decide_eq_true (by kernel_rfl)) d_num_Bit (of_decide_eq_true (by kernel_rfl))]
  exact congrArg (fin Try.prog [.tmp 4, .tmp 5]) (F_num_Bit_eq (evFn cx0 ext0 n) n bx.length a0 a1 bx)

/-- scupper/scupperref09.many -/
def kp_r09_many : Option (List Nat) := some [0, 1, 2, 4, 7, 9, 13]
noncomputable def c_r09_many : Code := Try.f31.body.getD .skip
noncomputable def F_r09_many (E : FnA) (_n _n0 : Nat) (a0 a1 : AV) (bx : Bx) : Option (Ex × S) :=
  (boxA bx a0).bind fun r1 =>
  (pv r1.2 (loadA Try.prog 25 r1.2 r1.1)).bind fun r2 =>
  (callA E md0 r2.2 42 [r2.1]).bind fun r3 =>
  (pv r3.2 (binA Try.prog .neq 27 r3.1 (.v (Go.Value.int Go.IntKind.i64 0)))).bind fun r4 =>
  condA r4.1 (some (.ret, ⟨[(4, (.v (Go.Value.int Go.IntKind.i64 0))), (7, r4.1), (4, (.v (Go.Value.int Go.IntKind.i64 0))), (2, r1.1), (0, a0), (1, a1)], r4.2⟩)) ((pv r4.2 (binA Try.prog .eql 3 a1 (.v (Go.Value.int Go.IntKind.i64 0)))).bind fun r5 =>
  condA r5.1 ((pv r5.2 (fieldAddrA Try.prog 25 r1.1 2)).bind fun r6 =>
  (pv r6.2 (loadA Try.prog 3 r6.2 r6.1)).bind fun r7 =>
  some (.ret, ⟨[(4, r7.1), (9, r5.1), (7, r4.1), (4, (.v (Go.Value.int Go.IntKind.i64 0))), (2, r1.1), (0, a0), (1, a1)], r7.2⟩)) ((pv r5.2 (binA Try.prog .eql 3 a1 (.v (Go.Value.int Go.IntKind.i64 4)))).bind fun r8 =>
  condA r8.1 ((pv r8.2 (fieldAddrA Try.prog 25 r1.1 1)).bind fun r9 =>
  (pv r9.2 (loadA Try.prog 3 r9.2 r9.1)).bind fun r10 =>
  (pv r10.2 (binA Try.prog .mul 3 (.v (Go.Value.int Go.IntKind.i64 3)) r10.1)).bind fun r11 =>
  some (.ret, ⟨[(4, r11.1), (13, r8.1), (9, r5.1), (7, r4.1), (4, (.v (Go.Value.int Go.IntKind.i64 0))), (2, r1.1), (0, a0), (1, a1)], r11.2⟩)) (some (.ret, ⟨[(4, (.v (Go.Value.int Go.IntKind.i64 0))), (13, r8.1), (9, r5.1), (7, r4.1), (4, (.v (Go.Value.int Go.IntKind.i64 0))), (2, r1.1), (0, a0), (1, a1)], r8.2⟩))))
theorem c_r09_many_eq : Try.f31.body = some c_r09_many := by kernel_rfl
theorem d_r09_many : drawsOk Try.prog md0 c_r09_many = true := by kernel_rfl
theorem F_r09_many_eq (E : FnA) (n n0 : Nat) (a0 a1 : AV) (bx : Bx) : evK Try.prog md0 E 17 kp_r09_many n n0 c_r09_many ⟨[(0, a0), (1, a1)], bx⟩ (fun s => some (.normal, s)) (fun i s => some (.exit i, s)) = F_r09_many E n n0 a0 a1 bx := by kernel_rfl

theorem E_r09_many (n : Nat) (a0 a1 : AV) (bx : Bx) : evFn cx0 ext0 (n + 1) 31 [a0, a1] bx = fin Try.prog [.tmp 4] (F_r09_many (evFn cx0 ext0 n) n bx.length a0 a1 bx) := by
  rw [evFn_eq2 (cx := cx0) (c := c_r09_many) rfl Try.func31 c_r09_many_eq (of_decide_eq_true (by kernel_rfl)) d_r09_many (of_decide_eq_true (by kernel_rfl))]
  exact congrArg (fin Try.prog [.tmp 4]) (F_r09_many_eq (evFn cx0 ext0 n) n bx.length a0 a1 bx)

/-- scupper/num.With -/
def kp_num_With : Option (List Nat) := some [0, 1, 2, 6, 7, 8, 9, 10, 11, 20, 31]
noncomputable def c_num_With : Code := Try.f32.body.getD .skip
noncomputable def F_num_With (E : FnA) (_n _n0 : Nat) (a0 a1 a2 : AV) (bx : Bx) : Option (Ex × S) :=
  (some (AV.bsl (List.length bx) 0 0 0, bx ++ [[]])).bind fun r1 =>
  (callA E md_num_With r1.2 44 [a0, a1]).bind fun r2 =>
  (pv r2.2 (tupA r2.1 0)).bind fun r3 =>
  (pv r3.2 (tupA r2.1 1)).bind fun r4 =>
  (pv r4.2 (tupA r2.1 2)).bind fun r5 =>
  (pv r5.2 (binA Try.prog .neq 27 r5.1 (.v (Go.Value.int Go.IntKind.i64 0)))).bind fun r6 =>
  condA r6.1 ((some (AV.bsl (List.length r6.2) 0 0 0, r6.2 ++ [[]])).bind fun r7 =>
  some (.ret, ⟨[(7, r5.1), (6, r7.1), (20, r6.1), (10, r5.1), (9, r4.1), (8, r3.1), (7, (.v (Go.Value.int Go.IntKind.i64 0))), (6, r1.1), (0, a0), (1, a1), (2, a2)], r7.2⟩)) ((callA E md_num_With r6.2 45 [a0]).bind fun r8 =>
  (pv r8.2 (indexAddrA Try.prog 47 r8.1 r3.1)).bind fun r9 =>
  (pv r9.2 (loadA Try.prog 5 r9.2 r9.1)).bind fun r10 =>
  (pv r10.2 (binA Try.prog .andNot 5 r10.1 r4.1)).bind fun r11 =>
  (pv r11.2 (indexAddrA Try.prog 47 r8.1 r3.1)).bind fun r12 =>
  (stA Try.prog 5 r12.2 r12.1 r11.1).bind fun r13 =>
  condA a2 ((pv r13.2 (indexAddrA Try.prog 47 r8.1 r3.1)).bind fun r14 =>
  (pv r14.2 (loadA Try.prog 5 r14.2 r14.1)).bind fun r15 =>
  (pv r15.2 (binA Try.prog .or 5 r15.1 r4.1)).bind fun r16 =>
  (pv r16.2 (indexAddrA Try.prog 47 r8.1 r3.1)).bind fun r17 =>
  (stA Try.prog 5 r17.2 r17.1 r16.1).bind fun r18 =>
  some (.ret, ⟨[(7, r5.1), (6, r8.1), (31, a2), (11, r8.1), (20, r6.1), (10, r5.1), (9, r4.1), (8, r3.1), (7, (.v (Go.Value.int Go.IntKind.i64 0))), (6, r1.1), (0, a0), (1, a1), (2, a2)], r18.2⟩)) (some (.ret, ⟨[(7, r5.1), (6, r8.1), (31, a2), (11, r8.1), (20, r6.1), (10, r5.1), (9, r4.1), (8, r3.1), (7, (.v (Go.Value.int Go.IntKind.i64 0))), (6, r1.1), (0, a0), (1, a1), (2, a2)], r13.2⟩)))
theorem c_num_With_eq : Try.f32.body = some c_num_With := by kernel_rfl
theorem d_num_With : drawsOk Try.prog md_num_With c_num_With = true := by kernel_rfl
theorem F_num_With_eq (E : FnA) (n n0 : Nat) (a0 a1 a2 : AV) (bx : Bx) : evK Try.prog md_num_With E 41 kp_num_With n n0 c_num_With ⟨[(0, a0), (1, a1), (2, a2)], bx⟩ (fun s => some (.normal, s)) (fun i s => some (.exit i, s)) = F_num_With E n n0 a0 a1 a2 bx := by kernel_rfl

theorem E_num_With (n : Nat) (a0 a1 a2 : AV) (bx : Bx) : evFn cx0 ext0 (n + 1) 32 [a0, a1, a2] bx = fin Try.prog [.tmp 6, .tmp 7] (F_num_With (evFn cx0 ext0 n) n bx.length a0 a1 a2 bx) := by
  rw [evFn_eq2 (cx := cx0) (c := c_num_With) rfl Try.func32 c_num_With_eq (of_decide_eq_true (by kernel_rfl)) d_num_With (of_decide_eq_true (by kernel_rfl))]
  exact congrArg (fin Try.prog [.tmp 6, .tmp 7]) (F_num_With_eq (evFn cx0 ext0 n) n bx.length a0 a1 a2 bx)

/-- scupper/num.Put16 -/
def kp_num_Put16 : Option (List Nat) := some [0, 2]
noncomputable def c_num_Put16 : Code := Try.f33.body.getD .skip
noncomputable def F_num_Put16 (_E : FnA) (_n _n0 : Nat) (a0 : AV) (bx : Bx) : Option (Ex × S) :=
  (allocA Try.prog bx 53).bind fun r1 =>
  (convA Try.prog r1.2 55 5 a0).bind fun r2 =>
  (pv r2.2 (binA Try.prog .shr 55 a0 (.v (Go.Value.int Go.IntKind.u64 8)))).bind fun r3 =>
  (convA Try.prog r3.2 55 5 r3.1).bind fun r4 =>
  (pv r4.2 (buildA Try.prog 53 [(0, r2.1), (1, r4.1)])).bind fun r5 =>
  (stA Try.prog 53 r5.2 r1.1 r5.1).bind fun r6 =>
  some (.ret, ⟨[(2, r1.1), (0, a0)], r6.2⟩)
theorem c_num_Put16_eq : Try.f33.body = some c_num_Put16 := by kernel_rfl
theorem d_num_Put16 : drawsOk Try.prog md0 c_num_Put16 = true := by kernel_rfl
theorem F_num_Put16_eq (E : FnA) (n n0 : Nat) (a0 : AV) (bx : Bx) : evK Try.prog md0 E 9 kp_num_Put16 n n0 c_num_Put16 ⟨[(0, a0)], bx⟩ (fun s => some (.normal, s)) (fun i s => some (.exit i, s)) = F_num_Put16 E n n0 a0 bx := by kernel_rfl

theorem E_num_Put16 (n : Nat) (a0 : AV) (bx : Bx) : evFn cx0 ext0 (n + 1) 33 [a0] bx = fin Try.prog [.cell 2 53] (F_num_Put16 (evFn cx0 ext0 n) n bx.length a0 bx) := by
  rw [evFn_eq2 (cx := cx0) (c := c_num_Put16) rfl Try.func33 c_num_Put16_eq (of_decide_eq_true (by kernel_rfl)) d_num_Put16 (of_decide_eq_true (by kernel_rfl))]
  exact congrArg (fin Try.prog [.cell 2 53]) (F_num_Put16_eq (evFn cx0 ext0 n) n bx.length a0 bx)

/-- scupper/scupperref09.bit -/
def kp_r09_bit : Option (List Nat) := some [0, 1, 4, 5, 15, 26]
noncomputable def c_r09_bit : Code := Try.f34.body.getD .skip
noncomputable def F_r09_bit (_E : FnA) (_n _n0 : Nat) (a0 a1 : AV) (bx : Bx) : Option (Ex × S) :=
  (pv bx (binA Try.prog .eql 3 a0 (.v (Go.Value.int Go.IntKind.i64 0)))).bind fun r1 =>
  (gsel true r1.2 (some (a1, r1.2)) r1.1).bind fun r2 =>
  (gsel true r2.2 (pv r2.2 (binA Try.prog .geq 3 r2.1 (.v (Go.Value.int Go.IntKind.i64 0)))) r1.1).bind fun r3 =>
  (pv r3.2 (pickA r1.1 r3.1 (.v (Go.Value.bool false)))).bind fun r4 =>
  (gsel true r4.2 (some (a1, r4.2)) r4.1).bind fun r5 =>
  (gsel true r5.2 (pv r5.2 (binA Try.prog .lss 3 r5.1 (.v (Go.Value.int Go.IntKind.i64 128)))) r4.1).bind fun r6 =>
  (pv r6.2 (pickA r4.1 r6.1 (.v (Go.Value.bool false)))).bind fun r7 =>
  condA r7.1 (some (.ret, ⟨[(5, (.v (Go.Value.bool true))), (4, a1), (15, r7.1), (5, (.v (Go.Value.bool false))), (4, (.v (Go.Value.int Go.IntKind.i64 0))), (0, a0), (1, a1)], r7.2⟩)) ((pv r7.2 (binA Try.prog .eql 3 a0 (.v (Go.Value.int Go.IntKind.i64 4)))).bind fun r8 =>
  (gsel true r8.2 (some (a1, r8.2)) r8.1).bind fun r9 =>
  (gsel true r9.2 (pv r9.2 (binA Try.prog .geq 3 r9.1 (.v (Go.Value.int Go.IntKind.i64 0)))) r8.1).bind fun r10 =>
  (pv r10.2 (pickA r8.1 r10.1 (.v (Go.Value.bool false)))).bind fun r11 =>
  (gsel true r11.2 (some (a1, r11.2)) r11.1).bind fun r12 =>
  (gsel true r12.2 (pv r12.2 (binA Try.prog .lss 3 r12.1 (.v (Go.Value.int Go.IntKind.i64 24)))) r11.1).bind fun r13 =>
  (pv r13.2 (pickA r11.1 r13.1 (.v (Go.Value.bool false)))).bind fun r14 =>
  condA r14.1 ((pv r14.2 (binA Try.prog .add 3 (.v (Go.Value.int Go.IntKind.i64 128)) a1)).bind fun r15 =>
  some (.ret, ⟨[(5, (.v (Go.Value.bool true))), (4, r15.1), (26, r14.1), (15, r7.1), (5, (.v (Go.Value.bool false))), (4, (.v (Go.Value.int Go.IntKind.i64 0))), (0, a0), (1, a1)], r15.2⟩)) (some (.ret, ⟨[(5, (.v (Go.Value.bool false))), (4, (.v (Go.Value.int Go.IntKind.i64 0))), (26, r14.1), (15, r7.1), (5, (.v (Go.Value.bool false))), (4, (.v (Go.Value.int Go.IntKind.i64 0))), (0, a0), (1, a1)], r14.2⟩)))
theorem c_r09_bit_eq : Try.f34.body = some c_r09_bit := by kernel_rfl
theorem d_r09_bit : drawsOk Try.prog md0 c_r09_bit = true := by kernel_rfl
theorem F_r09_bit_eq (E : FnA) (n n0 : Nat) (a0 a1 : AV) (bx : Bx) : evK Try.prog md0 E 29 kp_r09_bit n n0 c_r09_bit ⟨[(0, a0), (1, a1)], bx⟩ (fun s => some (.normal, s)) (fun i s => some (.exit i, s)) = F_r09_bit E n n0 a0 a1 bx := by kernel_rfl

theorem E_r09_bit (n : Nat) (a0 a1 : AV) (bx : Bx) : evFn cx0 ext0 (n + 1) 34 [a0, a1] bx = fin Try.prog [.tmp 4, .tmp 5] (F_r09_bit (evFn cx0 ext0 n) n bx.length a0 a1 bx) := by
  rw [evFn_eq2 (cx := cx0) (c := c_r09_bit) rfl Try.func34 c_r09_bit_eq (of_decide_eq_true (by kernel_rfl)) d_r09_bit (of_decide_eq_true (by kernel_rfl))]
  exact congrArg (fin Try.prog [.tmp 4, .tmp 5]) (F_r09_bit_eq (evFn cx0 ext0 n) n bx.length a0 a1 bx)

/-- scupper/scupperref01.Bit -/
def kp_r01_Bit : Option (List Nat) := some [0, 1, 4, 5, 14]
noncomputable def c_r01_Bit : Code := Try.f35.body.getD .skip
noncomputable def F_r01_Bit (E : FnA) (_n _n0 : Nat) (a0 a1 : AV) (bx : Bx) : Option (Ex × S) :=
  (pv bx (binA Try.prog .lss 3 a1 (.v (Go.Value.int Go.IntKind.i64 0)))).bind fun r1 =>
  (gsel false r1.2 (some (a1, r1.2)) r1.1).bind fun r2 =>
  (gsel false r2.2 (pv r2.2 (binA Try.prog .quo 3 r2.1 (.v (Go.Value.int Go.IntKind.i64 8)))) r1.1).bind fun r3 =>
  (gsel false r3.2 (some (a0, r3.2)) r1.1).bind fun r4 =>
  (gsel false r4.2 (pv r4.2 (lenA Try.prog 47 r4.1)) r1.1).bind fun r5 =>
  (gsel false r5.2 (pv r5.2 (binA Try.prog .geq 3 r3.1 r5.1)) r1.1).bind fun r6 =>
  (pv r6.2 (pickA r1.1 (.v (Go.Value.bool true)) r6.1)).bind fun r7 =>
  condA r7.1 (some (.ret, ⟨[(5, (.v (Go.Value.int Go.IntKind.i64 2))), (4, (.v (Go.Value.bool false))), (14, r7.1), (5, (.v (Go.Value.int Go.IntKind.i64 0))), (4, (.v (Go.Value.bool false))), (0, a0), (1, a1)], r7.2⟩)) ((pv r7.2 (binA Try.prog .quo 3 a1 (.v (Go.Value.int Go.IntKind.i64 8)))).bind fun r8 =>
  (pv r8.2 (indexAddrA Try.prog 47 a0 r8.1)).bind fun r9 =>
  (pv r9.2 (loadA Try.prog 5 r9.2 r9.1)).bind fun r10 =>
  (convA Try.prog r10.2 5 3 r10.1).bind fun r11 =>
  (pv r11.2 (binA Try.prog .rem 3 a1 (.v (Go.Value.int Go.IntKind.i64 8)))).bind fun r12 =>
  (callA E md0 r12.2 46 [r12.1]).bind fun r13 =>
  (pv r13.2 (binA Try.prog .quo 3 r11.1 r13.1)).bind fun r14 =>
  (pv r14.2 (binA Try.prog .rem 3 r14.1 (.v (Go.Value.int Go.IntKind.i64 2)))).bind fun r15 =>
  (pv r15.2 (binA Try.prog .eql 3 r15.1 (.v (Go.Value.int Go.IntKind.i64 1)))).bind fun r16 =>
  some (.ret, ⟨[(5, (.v (Go.Value.int Go.IntKind.i64 0))), (4, r16.1), (14, r7.1), (5, (.v (Go.Value.int Go.IntKind.i64 0))), (4, (.v (Go.Value.bool false))), (0, a0), (1, a1)], r16.2⟩))
theorem c_r01_Bit_eq : Try.f35.body = some c_r01_Bit := by kernel_rfl
theorem d_r01_Bit : drawsOk Try.prog md0 c_r01_Bit = true := by kernel_rfl
theorem F_r01_Bit_eq (E : FnA) (n n0 : Nat) (a0 a1 : AV) (bx : Bx) : evK Try.prog md0 E 27 kp_r01_Bit n n0 c_r01_Bit ⟨[(0, a0), (1, a1)], bx⟩ (fun s => some (.normal, s)) (fun i s => some (.exit i, s)) = F_r01_Bit E n n0 a0 a1 bx := by kernel_rfl

theorem E_r01_Bit (n : Nat) (a0 a1 : AV) (bx : Bx) : evFn cx0 ext0 (n + 1) 35 [a0, a1] bx = fin Try.prog [.tmp 4, .tmp 5] (F_r01_Bit (evFn cx0 ext0 n) n bx.length a0 a1 bx) := by
  rw [evFn_eq2 (cx := cx0) (c := c_r01_Bit) rfl Try.func35 c_r01_Bit_eq (of_decide_eq_true (by kernel_rfl)) d_r01_Bit (of_decide_eq_true (by kernel_rfl))]
  exact congrArg (fin Try.prog [.tmp 4, .tmp 5]) (F_r01_Bit_eq (evFn cx0 ext0 n) n bx.length a0 a1 bx)

/-- scupper/scupperref01.With -/
def kp_r01_With : Option (List Nat) := some [0, 1, 2, 6, 7, 8, 9, 10, 18, 27, 43]
noncomputable def c_r01_With : Code := Try.f36.body.getD .skip
noncomputable def F_r01_With (E : FnA) (_n n0 : Nat) (a0 a1 a2 : AV) (bx : Bx) : Option (Ex × S) :=
  (some (AV.bsl (List.length bx) 0 0 0, bx ++ [[]])).bind fun r1 =>
  (callA E md0 r1.2 35 [a0, a1]).bind fun r2 =>
  (pv r2.2 (tupA r2.1 0)).bind fun r3 =>
  (pv r3.2 (tupA r2.1 1)).bind fun r4 =>
  (pv r4.2 (binA Try.prog .neq 27 r4.1 (.v (Go.Value.int Go.IntKind.i64 0)))).bind fun r5 =>
  condA r5.1 ((some (AV.bsl (List.length r5.2) 0 0 0, r5.2 ++ [[]])).bind fun r6 =>
  some (.ret, ⟨[(7, r4.1), (6, r6.1), (18, r5.1), (9, r4.1), (8, r3.1), (7, (.v (Go.Value.int Go.IntKind.i64 0))), (6, r1.1), (0, a0), (1, a1), (2, a2)], r6.2⟩)) ((buildSliceA Try.prog r5.2 47 0 []).bind fun r7 =>
  (appA Try.prog n0 r7.2 47 r7.1 a0).bind fun r8 =>
  (gsel true r8.2.2 (some ((r8.2.1 r3.1), r8.2.2)) (r8.2.1 a2)).bind fun r9 =>
  (gsel true r9.2 (pv r9.2 (unA .not r9.1)) (r8.2.1 a2)).bind fun r10 =>
  (pv r10.2 (pickA (r8.2.1 a2) r10.1 (.v (Go.Value.bool false)))).bind fun r11 =>
  condA r11.1 ((pv r11.2 (binA Try.prog .quo 3 (r8.2.1 a1) (.v (Go.Value.int Go.IntKind.i64 8)))).bind fun r12 =>
  (pv r12.2 (indexAddrA Try.prog 47 r8.1 r12.1)).bind fun r13 =>
  (pv r13.2 (loadA Try.prog 5 r13.2 r13.1)).bind fun r14 =>
  (pv r14.2 (binA Try.prog .rem 3 (r8.2.1 a1) (.v (Go.Value.int Go.IntKind.i64 8)))).bind fun r15 =>
  (callA E md0 r15.2 46 [r15.1]).bind fun r16 =>
  (convA Try.prog r16.2 3 5 r16.1).bind fun r17 =>
  (pv r17.2 (binA Try.prog .add 5 r14.1 r17.1)).bind fun r18 =>
  (pv r18.2 (indexAddrA Try.prog 47 r8.1 r12.1)).bind fun r19 =>
  (stA Try.prog 5 r19.2 r19.1 r18.1).bind fun r20 =>
  (pv r20.2 (unA .not (r8.2.1 a2))).bind fun r21 =>
  (gsel true r21.2 (some ((r8.2.1 r3.1), r21.2)) r21.1).bind fun r22 =>
  (pv r22.2 (pickA r21.1 r22.1 (.v (Go.Value.bool false)))).bind fun r23 =>
  condA r23.1 ((pv r23.2 (binA Try.prog .quo 3 (r8.2.1 a1) (.v (Go.Value.int Go.IntKind.i64 8)))).bind fun r24 =>
  (pv r24.2 (indexAddrA Try.prog 47 r8.1 r24.1)).bind fun r25 =>
  (pv r25.2 (loadA Try.prog 5 r25.2 r25.1)).bind fun r26 =>
  (pv r26.2 (binA Try.prog .rem 3 (r8.2.1 a1) (.v (Go.Value.int Go.IntKind.i64 8)))).bind fun r27 =>
  (callA E md0 r27.2 46 [r27.1]).bind fun r28 =>
  (convA Try.prog r28.2 3 5 r28.1).bind fun r29 =>
  (pv r29.2 (binA Try.prog .sub 5 r26.1 r29.1)).bind fun r30 =>
  (pv r30.2 (indexAddrA Try.prog 47 r8.1 r24.1)).bind fun r31 =>
  (stA Try.prog 5 r31.2 r31.1 r30.1).bind fun r32 =>
  some (.ret, ⟨[(7, (.v (Go.Value.int Go.IntKind.i64 0))), (6, r8.1), (43, r23.1), (27, r11.1), (10, r8.1), (18, (r8.2.1 r5.1)), (9, (r8.2.1 r4.1)), (8, (r8.2.1 r3.1)), (7, (r8.2.1 (.v (Go.Value.int Go.IntKind.i64 0)))), (6, (r8.2.1 r1.1)), (0, (r8.2.1 a0)), (1, (r8.2.1 a1)), (2, (r8.2.1 a2))], r32.2⟩)) (some (.ret, ⟨[(7, (.v (Go.Value.int Go.IntKind.i64 0))), (6, r8.1), (43, r23.1), (27, r11.1), (10, r8.1), (18, (r8.2.1 r5.1)), (9, (r8.2.1 r4.1)), (8, (r8.2.1 r3.1)), (7, (r8.2.1 (.v (Go.Value.int Go.IntKind.i64 0)))), (6, (r8.2.1 r1.1)), (0, (r8.2.1 a0)), (1, (r8.2.1 a1)), (2, (r8.2.1 a2))], r23.2⟩))) ((pv r11.2 (unA .not (r8.2.1 a2))).bind fun r33 =>
  (gsel true r33.2 (some ((r8.2.1 r3.1), r33.2)) r33.1).bind fun r34 =>
  (pv r34.2 (pickA r33.1 r34.1 (.v (Go.Value.bool false)))).bind fun r35 =>
  condA r35.1 ((pv r35.2 (binA Try.prog .quo 3 (r8.2.1 a1) (.v (Go.Value.int Go.IntKind.i64 8)))).bind fun r36 =>
  (pv r36.2 (indexAddrA Try.prog 47 r8.1 r36.1)).bind fun r37 =>
  (pv r37.2 (loadA Try.prog 5 r37.2 r37.1)).bind fun r38 =>
  (pv r38.2 (binA Try.prog .rem 3 (r8.2.1 a1) (.v (Go.Value.int Go.IntKind.i64 8)))).bind fun r39 =>
  (callA E md0 r39.2 46 [r39.1]).bind fun r40 =>
  (convA Try.prog r40.2 3 5 r40.1).bind fun r41 =>
  (pv r41.2 (binA Try.prog .sub 5 r38.1 r41.1)).bind fun r42 =>
  (pv r42.2 (indexAddrA Try.prog 47 r8.1 r36.1)).bind fun r43 =>
  (stA Try.prog 5 r43.2 r43.1 r42.1).bind fun r44 =>
  some (.ret, ⟨[(7, (.v (Go.Value.int Go.IntKind.i64 0))), (6, r8.1), (43, r35.1), (27, r11.1), (10, r8.1), (18, (r8.2.1 r5.1)), (9, (r8.2.1 r4.1)), (8, (r8.2.1 r3.1)), (7, (r8.2.1 (.v (Go.Value.int Go.IntKind.i64 0)))), (6, (r8.2.1 r1.1)), (0, (r8.2.1 a0)), (1, (r8.2.1 a1)), (2, (r8.2.1 a2))], r44.2⟩)) (some (.ret, ⟨[(7, (.v (Go.Value.int Go.IntKind.i64 0))), (6, r8.1), (43, r35.1), (27, r11.1), (10, r8.1), (18, (r8.2.1 r5.1)), (9, (r8.2.1 r4.1)), (8, (r8.2.1 r3.1)), (7, (r8.2.1 (.v (Go.Value.int Go.IntKind.i64 0)))), (6, (r8.2.1 r1.1)), (0, (r8.2.1 a0)), (1, (r8.2.1 a1)), (2, (r8.2.1 a2))], r35.2⟩))))
theorem c_r01_With_eq : Try.f36.body = some c_r01_With := by kernel_rfl
theorem d_r01_With : drawsOk Try.prog md0 c_r01_With = true := by kernel_rfl
theorem F_r01_With_eq (E : FnA) (n n0 : Nat) (a0 a1 a2 : AV) (bx : Bx) : evK Try.prog md0 E 56 kp_r01_With n n0 c_r01_With ⟨[(0, a0), (1, a1), (2, a2)], bx⟩ (fun s => some (.normal, s)) (fun i s => some (.exit i, s)) = F_r01_With E n n0 a0 a1 a2 bx := by kernel_rfl

theorem E_r01_With (n : Nat) (a0 a1 a2 : AV) (bx : Bx) : evFn cx0 ext0 (n + 1) 36 [a0, a1, a2] bx = fin Try.prog [.tmp 6, .tmp 7] (F_r01_With (evFn cx0 ext0 n) n bx.length a0 a1 a2 bx) := by
  rw [evFn_eq2 (cx := cx0) (c := c_r01_With) rfl Try.func36 c_r01_With_eq (of_decide_eq_true (by kernel_rfl)) d_r01_With (of_decide_eq_true (by kernel_rfl))]
  exact congrArg (fin Try.prog [.tmp 6, .tmp 7]) (F_r01_With_eq (evFn cx0 ext0 n) n bx.length a0 a1 a2 bx)

/-- scupper/maps.Free$1 -/
def kp_maps_Free_1 : Option (List Nat) := some [0, 1, 2, 4]
noncomputable def c_maps_Free_1 : Code := Try.f37.body.getD .skip
noncomputable def F_maps_Free_1 (E : FnA) (_n _n0 : Nat) (a0 a1 a2 : AV) (bx : Bx) : Option (Ex × S) :=
  (pv bx (loadA Try.prog 25 bx a1)).bind fun r1 =>
  (callA E md0 r1.2 26 [r1.1, a0]).bind fun r2 =>
  (pv r2.2 (loadA Try.prog 23 r2.2 a2)).bind fun r3 =>
  (callA E md0 r3.2 28 [r3.1, a0]).bind fun r4 =>
  (pv r4.2 (loadA Try.prog 25 r4.2 a1)).bind fun r5 =>
  (callA E md0 r5.2 26 [r5.1, a0]).bind fun r6 =>
  (callA E md0 r6.2 38 [r4.1, r6.1]).bind fun r7 =>
  (pv r7.2 (binA Try.prog .sub 3 r2.1 r7.1)).bind fun r8 =>
  some (.ret, ⟨[(4, r8.1), (4, (.v (Go.Value.int Go.IntKind.i64 0))), (0, a0), (1, a1), (2, a2)], r8.2⟩)
theorem c_maps_Free_1_eq : Try.f37.body = some c_maps_Free_1 := by kernel_rfl
theorem d_maps_Free_1 : drawsOk Try.prog md0 c_maps_Free_1 = true := by kernel_rfl
theorem F_maps_Free_1_eq (E : FnA) (n n0 : Nat) (a0 a1 a2 : AV) (bx : Bx) : evK Try.prog md0 E 16 kp_maps_Free_1 n n0 c_maps_Free_1 ⟨[(0, a0), (1, a1), (2, a2)], bx⟩ (fun s => some (.normal, s)) (fun i s => some (.exit i, s)) = F_maps_Free_1 E n n0 a0 a1 a2 bx := by kernel_rfl

theorem E_maps_Free_1 (n : Nat) (a0 a1 a2 : AV) (bx : Bx) : evFn cx0 ext0 (n + 1) 37 [a0, a1, a2] bx = fin Try.prog [.tmp 4] (F_maps_Free_1 (evFn cx0 ext0 n) n bx.length a0 a1 a2 bx) := by
  rw [evFn_eq2 (cx := cx0) (c := c_maps_Free_1) rfl Try.func37 c_maps_Free_1_eq (of_decide_eq_true (by kernel_rfl)) d_maps_Free_1 (of_decide_eq_true (by kernel_rfl))]
  exact congrArg (fin Try.prog [.tmp 4]) (F_maps_Free_1_eq (evFn cx0 ext0 n) n bx.length a0 a1 a2 bx)

/-- scupper/num.Count -/
def kp_num_Count : Option (List Nat) := some [0, 1, 4, 5, 6, 9, 10, 11]
noncomputable def c_num_Count : Code := Try.f38.body.getD .skip
noncomputable def L_num_Count_0 (_E : FnA) (_n _n0 : Nat) (s : S) : Option (Ex × S) :=
  (pv s.bx (binA Try.prog .lss 3 (get s.env 10) (get s.env 9))).bind fun r12 =>
  condA r12.1 ((pv r12.2 (binA Try.prog .quo 3 (get (prune kp_num_Count s.env) 10) (.v (Go.Value.int Go.IntKind.i64 8)))).bind fun r13 =>
  (pv r13.2 (indexAddrA Try.prog 47 (get (prune kp_num_Count (prune kp_num_Count s.env)) 0) r13.1)).bind fun r14 =>
  (pv r14.2 (loadA Try.prog 5 r14.2 r14.1)).bind fun r15 =>
  (pv r15.2 (binA Try.prog .rem 3 (get (prune kp_num_Count s.env) 10) (.v (Go.Value.int Go.IntKind.i64 8)))).bind fun r16 =>
  (pv r16.2 (binA Try.prog .shr 5 r15.1 r16.1)).bind fun r17 =>
  (pv r17.2 (binA Try.prog .and 5 r17.1 (.v (Go.Value.int Go.IntKind.u8 1)))).bind fun r18 =>
  (convA Try.prog r18.2 5 3 r18.1).bind fun r19 =>
  (pv r19.2 (binA Try.prog .add 3 (get (prune kp_num_Count (prune kp_num_Count s.env)) 5) r19.1)).bind fun r20 =>
  (pv r20.2 (binA Try.prog .add 3 (get (prune kp_num_Count (prune kp_num_Count (prune kp_num_Count s.env))) 10) (.v (Go.Value.int Go.IntKind.i64 1)))).bind fun r21 =>
  some (.normal, ⟨((10, r21.1) :: (5, r20.1) :: (6, (get (prune kp_num_Count s.env) 10)) :: (11, r12.1) :: (prune kp_num_Count (prune kp_num_Count (prune kp_num_Count (prune kp_num_Count s.env))))), r21.2⟩)) (some (.exit 0, ⟨((11, r12.1) :: (prune kp_num_Count s.env)), r12.2⟩))
noncomputable def B_num_Count_0 (_E : FnA) (_n _n0 : Nat) (x10 x9 x5 x4 x0 x1 : AV) (y : Bx) : Option (Ex × S) :=
  (pv y (binA Try.prog .lss 3 x10 x9)).bind fun r2 =>
  condA r2.1 ((pv r2.2 (binA Try.prog .quo 3 x10 (.v (Go.Value.int Go.IntKind.i64 8)))).bind fun r3 =>
  (pv r3.2 (indexAddrA Try.prog 47 x0 r3.1)).bind fun r4 =>
  (pv r4.2 (loadA Try.prog 5 r4.2 r4.1)).bind fun r5 =>
  (pv r5.2 (binA Try.prog .rem 3 x10 (.v (Go.Value.int Go.IntKind.i64 8)))).bind fun r6 =>
  (pv r6.2 (binA Try.prog .shr 5 r5.1 r6.1)).bind fun r7 =>
  (pv r7.2 (binA Try.prog .and 5 r7.1 (.v (Go.Value.int Go.IntKind.u8 1)))).bind fun r8 =>
  (convA Try.prog r8.2 5 3 r8.1).bind fun r9 =>
  (pv r9.2 (binA Try.prog .add 3 x5 r9.1)).bind fun r10 =>
  (pv r10.2 (binA Try.prog .add 3 x10 (.v (Go.Value.int Go.IntKind.i64 1)))).bind fun r11 =>
  some (.normal, ⟨[(10, r11.1), (5, r10.1), (6, x10), (11, r2.1), (10, x10), (9, x9), (5, x5), (4, x4), (0, x0), (1, x1)], r11.2⟩)) (some (.exit 0, ⟨[(11, r2.1), (10, x10), (9, x9), (5, x5), (4, x4), (0, x0), (1, x1)], r2.2⟩))
theorem L_num_Count_0_lit {E : FnA} {n n0 : Nat} {x10 x9 x5 x4 x0 x1 : AV} {y : Bx} {Q : Ex → S → Prop} (h : Ends (B_num_Count_0 E n n0 x10 x9 x5 x4 x0 x1 y) Q) : Ends (L_num_Count_0 E n n0 ⟨[(10, x10), (9, x9), (5, x5), (4, x4), (0, x0), (1, x1)], y⟩) Q := by
  rw [show L_num_Count_0 E n n0 ⟨[(10, x10), (9, x9), (5, x5), (4, x4), (0, x0), (1, x1)], y⟩ = B_num_Count_0 E n n0 x10 x9 x5 x4 x0 x1 y by kernel_rfl]
  exact h
noncomputable def K_num_Count_0 (_E : FnA) (_n _n0 : Nat) (t : S) : Option (Ex × S) :=
  some (.ret, ⟨((4, (get t.env 5)) :: (prune kp_num_Count t.env)), t.bx⟩)
noncomputable def X_num_Count_0 (_E : FnA) (_n _n0 : Nat) (i : Nat) (t : S) : Option (Ex × S) :=
  if i = 0 then some (.ret, ⟨((4, (get t.env 5)) :: (prune kp_num_Count t.env)), t.bx⟩) else some (.exit i, ⟨t.env, t.bx⟩)
noncomputable def X_num_Count_0_0 (_E : FnA) (_n _n0 : Nat) (x11 x10 x9 x5 x4 x0 x1 : AV) (y : Bx) : Option (Ex × S) :=
  some (.ret, ⟨[(4, x5), (11, x11), (10, x10), (9, x9), (5, x5), (4, x4), (0, x0), (1, x1)], y⟩)
theorem X_num_Count_0_0_lit {E : FnA} {n n0 : Nat} {x11 x10 x9 x5 x4 x0 x1 : AV} {y : Bx} {Q : Ex → S → Prop} (h : Ends (X_num_Count_0_0 E n n0 x11 x10 x9 x5 x4 x0 x1 y) Q) : Ends (X_num_Count_0 E n n0 0 ⟨[(11, x11), (10, x10), (9, x9), (5, x5), (4, x4), (0, x0), (1, x1)], y⟩) Q := by
  rw [show X_num_Count_0 E n n0 0 ⟨[(11, x11), (10, x10), (9, x9), (5, x5), (4, x4), (0, x0), (1, x1)], y⟩ = X_num_Count_0_0 E n n0 x11 x10 x9 x5 x4 x0 x1 y by kernel_rfl]
  exact h
noncomputable def F_num_Count (E : FnA) (n n0 : Nat) (a0 a1 : AV) (bx : Bx) : Option (Ex × S) :=
  (callA E md0 bx 43 [a0, a1]).bind fun r1 =>
  exitA (iter ⟨[(10, (.v (Go.Value.int Go.IntKind.i64 0))), (9, r1.1), (5, (.v (Go.Value.int Go.IntKind.i64 0))), (4, (.v (Go.Value.int Go.IntKind.i64 0))), (0, a0), (1, a1)], r1.2⟩ (L_num_Count_0 E n n0) n ⟨[(10, (.v (Go.Value.int Go.IntKind.i64 0))), (9, r1.1), (5, (.v (Go.Value.int Go.IntKind.i64 0))), (4, (.v (Go.Value.int Go.IntKind.i64 0))), (0, a0), (1, a1)], r1.2⟩) (K_num_Count_0 E n n0) (X_num_Count_0 E n n0)
theorem c_num_Count_eq : Try.f38.body = some c_num_Count := by kernel_rfl
theorem d_num_Count : drawsOk Try.prog md0 c_num_Count = true := by kernel_rfl
theorem F_num_Count_eq (E : FnA) (n n0 : Nat) (a0 a1 : AV) (bx : Bx) : evK Try.prog md0 E 27 kp_num_Count n n0 c_num_Count ⟨[(0, a0), (1, a1)], bx⟩ (fun s => some (.normal, s)) (fun i s => some (.exit i, s)) = F_num_Count E n n0 a0 a1 bx := by kernel_rfl

theorem E_num_Count (n : Nat) (a0 a1 : AV) (bx : Bx) : evFn cx0 ext0 (n + 1) 38 [a0, a1] bx = fin Try.prog [.tmp 4] (F_num_Count (evFn cx0 ext0 n) n bx.length a0 a1 bx) := by
  rw [evFn_eq2 (cx := cx0) (c := c_num_Count) rfl Try.func38 c_num_Count_eq (of_decide_eq_true (by kernel_rfl)) d_num_Count (of_decide_eq_true (by kernel_rfl))]
  exact congrArg (fin Try.prog [.tmp 4]) (F_num_Count_eq (evFn cx0 ext0 n) n bx.length a0 a1 bx)

/-- scupper/scupperref09.free -/
def kp_r09_free : Option (List Nat) := some [0, 1, 2, 3, 4, 6, 7, 8, 9, 15, 26]
noncomputable def c_r09_free : Code := Try.f39.body.getD .skip
noncomputable def L_r09_free_0 (E : FnA) (_n _n0 : Nat) (s : S) : Option (Ex × S) :=
  (pv s.bx (loadA Try.prog 25 s.bx (get s.env 4))).bind fun r14 =>
  (callA E md0 r14.2 31 [r14.1, (get s.env 2)]).bind fun r15 =>
  (pv r15.2 (binA Try.prog .lss 3 (get s.env 8) r15.1)).bind fun r16 =>
  condA r16.1 ((pv r16.2 (loadA Try.prog 23 r16.2 (get (prune kp_r09_free s.env) 3))).bind fun r17 =>
  (callA E md0 r17.2 19 [r17.1, (get (prune kp_r09_free s.env) 2), (get (prune kp_r09_free s.env) 8)]).bind fun r18 =>
  (pv r18.2 (tupA r18.1 0)).bind fun r19 =>
  (pv r19.2 (tupA r18.1 1)).bind fun r20 =>
  (pv r20.2 (unA .not r19.1)).bind fun r21 =>
  condA r21.1 ((pv r21.2 (binA Try.prog .add 3 (get (prune kp_r09_free (prune kp_r09_free (prune kp_r09_free s.env))) 7) (.v (Go.Value.int Go.IntKind.i64 1)))).bind fun r22 =>
  (pv r22.2 (binA Try.prog .add 3 (get (prune kp_r09_free (prune kp_r09_free (prune kp_r09_free (prune kp_r09_free s.env)))) 8) (.v (Go.Value.int Go.IntKind.i64 1)))).bind fun r23 =>
  some (.normal, ⟨((8, r23.1) :: (7, r22.1) :: (26, r21.1) :: (9, r19.1) :: (15, r16.1) :: (prune kp_r09_free (prune kp_r09_free (prune kp_r09_free (prune kp_r09_free (prune kp_r09_free s.env)))))), r23.2⟩)) ((pv r21.2 (binA Try.prog .add 3 (get (prune kp_r09_free (prune kp_r09_free (prune kp_r09_free s.env))) 8) (.v (Go.Value.int Go.IntKind.i64 1)))).bind fun r24 =>
  some (.normal, ⟨((8, r24.1) :: (26, r21.1) :: (9, r19.1) :: (15, r16.1) :: (prune kp_r09_free (prune kp_r09_free (prune kp_r09_free (prune kp_r09_free s.env))))), r24.2⟩))) (some (.exit 0, ⟨((15, r16.1) :: (prune kp_r09_free s.env)), r16.2⟩))
noncomputable def B_r09_free_0 (E : FnA) (_n _n0 : Nat) (x8 x7 x6 x4 x3 x0 x1 x2 : AV) (y : Bx) : Option (Ex × S) :=
  (pv y (loadA Try.prog 25 y x4)).bind fun r3 =>
  (callA E md0 r3.2 31 [r3.1, x2]).bind fun r4 =>
  (pv r4.2 (binA Try.prog .lss 3 x8 r4.1)).bind fun r5 =>
  condA r5.1 ((pv r5.2 (loadA Try.prog 23 r5.2 x3)).bind fun r6 =>
  (callA E md0 r6.2 19 [r6.1, x2, x8]).bind fun r7 =>
  (pv r7.2 (tupA r7.1 0)).bind fun r8 =>
  (pv r8.2 (tupA r7.1 1)).bind fun r9 =>
  (pv r9.2 (unA .not r8.1)).bind fun r10 =>
  condA r10.1 ((pv r10.2 (binA Try.prog .add 3 x7 (.v (Go.Value.int Go.IntKind.i64 1)))).bind fun r11 =>
  (pv r11.2 (binA Try.prog .add 3 x8 (.v (Go.Value.int Go.IntKind.i64 1)))).bind fun r12 =>
  some (.normal, ⟨[(8, r12.1), (7, r11.1), (26, r10.1), (9, r8.1), (15, r5.1), (8, x8), (7, x7), (6, x6), (4, x4), (3, x3), (0, x0), (1, x1), (2, x2)], r12.2⟩)) ((pv r10.2 (binA Try.prog .add 3 x8 (.v (Go.Value.int Go.IntKind.i64 1)))).bind fun r13 =>
  some (.normal, ⟨[(8, r13.1), (26, r10.1), (9, r8.1), (15, r5.1), (8, x8), (7, x7), (6, x6), (4, x4), (3, x3), (0, x0), (1, x1), (2, x2)], r13.2⟩))) (some (.exit 0, ⟨[(15, r5.1), (8, x8), (7, x7), (6, x6), (4, x4), (3, x3), (0, x0), (1, x1), (2, x2)], r5.2⟩))
theorem L_r09_free_0_lit {E : FnA} {n n0 : Nat} {x8 x7 x6 x4 x3 x0 x1 x2 : AV} {y : Bx} {Q : Ex → S → Prop} (h : Ends (B_r09_free_0 E n n0 x8 x7 x6 x4 x3 x0 x1 x2 y) Q) : Ends (L_r09_free_0 E n n0 ⟨[(8, x8), (7, x7), (6, x6), (4, x4), (3, x3), (0, x0), (1, x1), (2, x2)], y⟩) Q := by
  rw [show L_r09_free_0 E n n0 ⟨[(8, x8), (7, x7), (6, x6), (4, x4), (3, x3), (0, x0), (1, x1), (2, x2)], y⟩ = B_r09_free_0 E n n0 x8 x7 x6 x4 x3 x0 x1 x2 y by kernel_rfl]
  exact h
noncomputable def K_r09_free_0 (_E : FnA) (_n _n0 : Nat) (t : S) : Option (Ex × S) :=
  some (.ret, ⟨((6, (get t.env 7)) :: (prune kp_r09_free t.env)), t.bx⟩)
noncomputable def X_r09_free_0 (_E : FnA) (_n _n0 : Nat) (i : Nat) (t : S) : Option (Ex × S) :=
  if i = 0 then some (.ret, ⟨((6, (get t.env 7)) :: (prune kp_r09_free t.env)), t.bx⟩) else some (.exit i, ⟨t.env, t.bx⟩)
noncomputable def X_r09_free_0_0 (_E : FnA) (_n _n0 : Nat) (x15 x8 x7 x6 x4 x3 x0 x1 x2 : AV) (y : Bx) : Option (Ex × S) :=
  some (.ret, ⟨[(6, x7), (15, x15), (8, x8), (7, x7), (6, x6), (4, x4), (3, x3), (0, x0), (1, x1), (2, x2)], y⟩)
theorem X_r09_free_0_0_lit {E : FnA} {n n0 : Nat} {x15 x8 x7 x6 x4 x3 x0 x1 x2 : AV} {y : Bx} {Q : Ex → S → Prop} (h : Ends (X_r09_free_0_0 E n n0 x15 x8 x7 x6 x4 x3 x0 x1 x2 y) Q) : Ends (X_r09_free_0 E n n0 0 ⟨[(15, x15), (8, x8), (7, x7), (6, x6), (4, x4), (3, x3), (0, x0), (1, x1), (2, x2)], y⟩) Q := by
  rw [show X_r09_free_0 E n n0 0 ⟨[(15, x15), (8, x8), (7, x7), (6, x6), (4, x4), (3, x3), (0, x0), (1, x1), (2, x2)], y⟩ = X_r09_free_0_0 E n n0 x15 x8 x7 x6 x4 x3 x0 x1 x2 y by kernel_rfl]
  exact h
noncomputable def F_r09_free (E : FnA) (n n0 : Nat) (a0 a1 a2 : AV) (bx : Bx) : Option (Ex × S) :=
  (boxA bx a0).bind fun r1 =>
  (boxA r1.2 a1).bind fun r2 =>
  exitA (iter ⟨[(8, (.v (Go.Value.int Go.IntKind.i64 0))), (7, (.v (Go.Value.int Go.IntKind.i64 0))), (6, (.v (Go.Value.int Go.IntKind.i64 0))), (4, r2.1), (3, r1.1), (0, a0), (1, a1), (2, a2)], r2.2⟩ (L_r09_free_0 E n n0) n ⟨[(8, (.v (Go.Value.int Go.IntKind.i64 0))), (7, (.v (Go.Value.int Go.IntKind.i64 0))), (6, (.v (Go.Value.int Go.IntKind.i64 0))), (4, r2.1), (3, r1.1), (0, a0), (1, a1), (2, a2)], r2.2⟩) (K_r09_free_0 E n n0) (X_r09_free_0 E n n0)
theorem c_r09_free_eq : Try.f39.body = some c_r09_free := by kernel_rfl
theorem d_r09_free : drawsOk Try.prog md0 c_r09_free = true := by kernel_rfl
theorem F_r09_free_eq (E : FnA) (n n0 : Nat) (a0 a1 a2 : AV) (bx : Bx) : evK Try.prog md0 E 30 kp_r09_free n n0 c_r09_free ⟨[(0, a0), (1, a1), (2, a2)], bx⟩ (fun s => some (.normal, s)) (fun i s => some (.exit i, s)) = F_r09_free E n n0 a0 a1 a2 bx := by kernel_rfl

theorem E_r09_free (n : Nat) (a0 a1 a2 : AV) (bx : Bx) : evFn cx0 ext0 (n + 1) 39 [a0, a1, a2] bx = fin Try.prog [.tmp 6] (F_r09_free (evFn cx0 ext0 n) n bx.length a0 a1 a2 bx) := by
  rw [evFn_eq2 (cx := cx0) (c := c_r09_free) rfl Try.func39 c_r09_free_eq (of_decide_eq_true (by kernel_rfl)) d_r09_free (of_decide_eq_true (by kernel_rfl))]
  exact congrArg (fin Try.prog [.tmp 6]) (F_r09_free_eq (evFn cx0 ext0 n) n bx.length a0 a1 a2 bx)

/-- scupper/geom.Check -/
def kp_geom_Check : Option (List Nat) := some [0, 1, 2, 3, 27]
noncomputable def c_geom_Check : Code := Try.f40.body.getD .skip
noncomputable def F_geom_Check (E : FnA) (_n _n0 : Nat) (a0 : AV) (bx : Bx) : Option (Ex × S) :=
  (boxA bx a0).bind fun r1 =>
  (pv r1.2 (loadA Try.prog 25 r1.2 r1.1)).bind fun r2 =>
  (pv r2.2 (buildA Try.prog 25 [])).bind fun r3 =>
  (pv r3.2 (binA Try.prog .eql 25 r2.1 r3.1)).bind fun r4 =>
  (gsel false r4.2 (some ((.fn 47 [] []), r4.2)) r4.1).bind fun r5 =>
  (gsel false r5.2 (pv r5.2 (fieldAddrA Try.prog 25 r1.1 0)) r4.1).bind fun r6 =>
  (gsel false r6.2 (pv r6.2 (loadA Try.prog 3 r6.2 r6.1)) r4.1).bind fun r7 =>
  (gsel false r7.2 (callV E md0 r7.2 [r7.1, (.v (Go.Value.int Go.IntKind.i64 1)), (.v (Go.Value.int Go.IntKind.i64 8))] r5.1) r4.1).bind fun r8 =>
  (gsel false r8.2 (pv r8.2 (unA .not r8.1)) r4.1).bind fun r9 =>
  (pv r9.2 (pickA r4.1 (.v (Go.Value.bool true)) r9.1)).bind fun r10 =>
  (gsel false r10.2 (some ((.fn 47 [] []), r10.2)) r10.1).bind fun r11 =>
  (gsel false r11.2 (pv r11.2 (fieldAddrA Try.prog 25 r1.1 1)) r10.1).bind fun r12 =>
  (gsel false r12.2 (pv r12.2 (loadA Try.prog 3 r12.2 r12.1)) r10.1).bind fun r13 =>
  (gsel false r13.2 (callV E md0 r13.2 [r13.1, (.v (Go.Value.int Go.IntKind.i64 1)), (.v (Go.Value.int Go.IntKind.i64 8))] r11.1) r10.1).bind fun r14 =>
  (gsel false r14.2 (pv r14.2 (unA .not r14.1)) r10.1).bind fun r15 =>
  (pv r15.2 (pickA r10.1 (.v (Go.Value.bool true)) r15.1)).bind fun r16 =>
  (gsel false r16.2 (some ((.fn 47 [] []), r16.2)) r16.1).bind fun r17 =>
  (gsel false r17.2 (pv r17.2 (fieldAddrA Try.prog 25 r1.1 2)) r16.1).bind fun r18 =>
  (gsel false r18.2 (pv r18.2 (loadA Try.prog 3 r18.2 r18.1)) r16.1).bind fun r19 =>
  (gsel false r19.2 (callV E md0 r19.2 [r19.1, (.v (Go.Value.int Go.IntKind.i64 4)), (.v (Go.Value.int Go.IntKind.i64 128))] r17.1) r16.1).bind fun r20 =>
  (gsel false r20.2 (pv r20.2 (unA .not r20.1)) r16.1).bind fun r21 =>
  (pv r21.2 (pickA r16.1 (.v (Go.Value.bool true)) r21.1)).bind fun r22 =>
  condA r22.1 (some (.ret, ⟨[(2, (.v (Go.Value.int Go.IntKind.i64 2))), (27, r22.1), (3, (.fn 47 [] [])), (2, (.v (Go.Value.int Go.IntKind.i64 0))), (1, r1.1), (0, a0)], r22.2⟩)) (some (.ret, ⟨[(2, (.v (Go.Value.int Go.IntKind.i64 0))), (27, r22.1), (3, (.fn 47 [] [])), (2, (.v (Go.Value.int Go.IntKind.i64 0))), (1, r1.1), (0, a0)], r22.2⟩))
theorem c_geom_Check_eq : Try.f40.body = some c_geom_Check := by kernel_rfl
theorem d_geom_Check : drawsOk Try.prog md0 c_geom_Check = true := by kernel_rfl
theorem F_geom_Check_eq (E : FnA) (n n0 : Nat) (a0 : AV) (bx : Bx) : evK Try.prog md0 E 28 kp_geom_Check n n0 c_geom_Check ⟨[(0, a0)], bx⟩ (fun s => some (.normal, s)) (fun i s => some (.exit i, s)) = F_geom_Check E n n0 a0 bx := by kernel_rfl

theorem E_geom_Check (n : Nat) (a0 : AV) (bx : Bx) : evFn cx0 ext0 (n + 1) 40 [a0] bx = fin Try.prog [.tmp 2] (F_geom_Check (evFn cx0 ext0 n) n bx.length a0 bx) := by
  rw [evFn_eq2 (cx := cx0) (c := c_geom_Check) rfl Try.func40 c_geom_Check_eq (of_decide_eq_true (by kernel_rfl)) d_geom_Check (of_decide_eq_true (by kernel_rfl))]
  exact congrArg (fin Try.prog [.tmp 2]) (F_geom_Check_eq (evFn cx0 ext0 n) n bx.length a0 bx)

/-- scupper/scupperref06.Check -/
def kp_r06_Check : Option (List Nat) := some [0, 1, 2, 30]
noncomputable def c_r06_Check : Code := Try.f42.body.getD .skip
noncomputable def F_r06_Check (_E : FnA) (_n _n0 : Nat) (a0 : AV) (bx : Bx) : Option (Ex × S) :=
  (boxA bx a0).bind fun r1 =>
  (pv r1.2 (fieldAddrA Try.prog 25 r1.1 0)).bind fun r2 =>
  (pv r2.2 (loadA Try.prog 3 r2.2 r2.1)).bind fun r3 =>
  (pv r3.2 (binA Try.prog .lss 3 r3.1 (.v (Go.Value.int Go.IntKind.i64 1)))).bind fun r4 =>
  (gsel false r4.2 (pv r4.2 (fieldAddrA Try.prog 25 r1.1 0)) r4.1).bind fun r5 =>
  (gsel false r5.2 (pv r5.2 (loadA Try.prog 3 r5.2 r5.1)) r4.1).bind fun r6 =>
  (gsel false r6.2 (pv r6.2 (binA Try.prog .gtr 3 r6.1 (.v (Go.Value.int Go.IntKind.i64 8)))) r4.1).bind fun r7 =>
  (pv r7.2 (pickA r4.1 (.v (Go.Value.bool true)) r7.1)).bind fun r8 =>
  (gsel false r8.2 (pv r8.2 (fieldAddrA Try.prog 25 r1.1 1)) r8.1).bind fun r9 =>
  (gsel false r9.2 (pv r9.2 (loadA Try.prog 3 r9.2 r9.1)) r8.1).bind fun r10 =>
  (gsel false r10.2 (pv r10.2 (binA Try.prog .lss 3 r10.1 (.v (Go.Value.int Go.IntKind.i64 1)))) r8.1).bind fun r11 =>
  (pv r11.2 (pickA r8.1 (.v (Go.Value.bool true)) r11.1)).bind fun r12 =>
  (gsel false r12.2 (pv r12.2 (fieldAddrA Try.prog 25 r1.1 1)) r12.1).bind fun r13 =>
  (gsel false r13.2 (pv r13.2 (loadA Try.prog 3 r13.2 r13.1)) r12.1).bind fun r14 =>
  (gsel false r14.2 (pv r14.2 (binA Try.prog .gtr 3 r14.1 (.v (Go.Value.int Go.IntKind.i64 8)))) r12.1).bind fun r15 =>
  (pv r15.2 (pickA r12.1 (.v (Go.Value.bool true)) r15.1)).bind fun r16 =>
  (gsel false r16.2 (pv r16.2 (fieldAddrA Try.prog 25 r1.1 2)) r16.1).bind fun r17 =>
  (gsel false r17.2 (pv r17.2 (loadA Try.prog 3 r17.2 r17.1)) r16.1).bind fun r18 =>
  (gsel false r18.2 (pv r18.2 (binA Try.prog .lss 3 r18.1 (.v (Go.Value.int Go.IntKind.i64 4)))) r16.1).bind fun r19 =>
  (pv r19.2 (pickA r16.1 (.v (Go.Value.bool true)) r19.1)).bind fun r20 =>
  (gsel false r20.2 (pv r20.2 (fieldAddrA Try.prog 25 r1.1 2)) r20.1).bind fun r21 =>
  (gsel false r21.2 (pv r21.2 (loadA Try.prog 3 r21.2 r21.1)) r20.1).bind fun r22 =>
  (gsel false r22.2 (pv r22.2 (binA Try.prog .gtr 3 r22.1 (.v (Go.Value.int Go.IntKind.i64 128)))) r20.1).bind fun r23 =>
  (pv r23.2 (pickA r20.1 (.v (Go.Value.bool true)) r23.1)).bind fun r24 =>
  condA r24.1 (some (.ret, ⟨[(2, (.v (Go.Value.int Go.IntKind.i64 2))), (30, r24.1), (2, (.v (Go.Value.int Go.IntKind.i64 0))), (1, r1.1), (0, a0)], r24.2⟩)) (some (.ret, ⟨[(2, (.v (Go.Value.int Go.IntKind.i64 0))), (30, r24.1), (2, (.v (Go.Value.int Go.IntKind.i64 0))), (1, r1.1), (0, a0)], r24.2⟩))
theorem c_r06_Check_eq : Try.f42.body = some c_r06_Check := by kernel_rfl
theorem d_r06_Check : drawsOk Try.prog md0 c_r06_Check = true := by kernel_rfl
theorem F_r06_Check_eq (E : FnA) (n n0 : Nat) (a0 : AV) (bx : Bx) : evK Try.prog md0 E 31 kp_r06_Check n n0 c_r06_Check ⟨[(0, a0)], bx⟩ (fun s => some (.normal, s)) (fun i s => some (.exit i, s)) = F_r06_Check E n n0 a0 bx := by kernel_rfl

theorem E_r06_Check (n : Nat) (a0 : AV) (bx : Bx) : evFn cx0 ext0 (n + 1) 42 [a0] bx = fin Try.prog [.tmp 2] (F_r06_Check (evFn cx0 ext0 n) n bx.length a0 bx) := by
  rw [evFn_eq2 (cx := cx0) (c := c_r06_Check) rfl Try.func42 c_r06_Check_eq (of_decide_eq_true (by kernel_rfl)) d_r06_Check (of_decide_eq_true (by kernel_rfl))]
  exact congrArg (fin Try.prog [.tmp 2]) (F_r06_Check_eq (evFn cx0 ext0 n) n bx.length a0 bx)

/-- scupper/num.some -/
def kp_num_some : Option (List Nat) := some [0, 1, 4]
noncomputable def c_num_some : Code := Try.f43.body.getD .skip
noncomputable def F_num_some (_E : FnA) (_n _n0 : Nat) (a0 a1 : AV) (bx : Bx) : Option (Ex × S) :=
  (pv bx (lenA Try.prog 47 a0)).bind fun r1 =>
  (pv r1.2 (binA Try.prog .mul 3 (.v (Go.Value.int Go.IntKind.i64 8)) r1.1)).bind fun r2 =>
  (pv r2.2 (minL false a1 [r2.1])).bind fun r3 =>
  (pv r3.2 (minL true (.v (Go.Value.int Go.IntKind.i64 0)) [r3.1])).bind fun r4 =>
  some (.ret, ⟨[(4, r4.1), (4, (.v (Go.Value.int Go.IntKind.i64 0))), (0, a0), (1, a1)], r4.2⟩)
theorem c_num_some_eq : Try.f43.body = some c_num_some := by kernel_rfl
theorem d_num_some : drawsOk Try.prog md0 c_num_some = true := by kernel_rfl
theorem F_num_some_eq (E : FnA) (n n0 : Nat) (a0 a1 : AV) (bx : Bx) : evK Try.prog md0 E 11 kp_num_some n n0 c_num_some ⟨[(0, a0), (1, a1)], bx⟩ (fun s => some (.normal, s)) (fun i s => some (.exit i, s)) = F_num_some E n n0 a0 a1 bx := by kernel_rfl

theorem E_num_some (n : Nat) (a0 a1 : AV) (bx : Bx) : evFn cx0 ext0 (n + 1) 43 [a0, a1] bx = fin Try.prog [.tmp 4] (F_num_some (evFn cx0 ext0 n) n bx.length a0 a1 bx) := by
  rw [evFn_eq2 (cx := cx0) (c := c_num_some) rfl Try.func43 c_num_some_eq (of_decide_eq_true (by kernel_rfl)) d_num_some (of_decide_eq_true (by kernel_rfl))]
  exact congrArg (fin Try.prog [.tmp 4]) (F_num_some_eq (evFn cx0 ext0 n) n bx.length a0 a1 bx)

/-- scupper/num.bit -/
def kp_num_bit : Option (List Nat) := some [0, 1, 4, 5, 6, 15]
noncomputable def c_num_bit : Code := Try.f44.body.getD .skip
noncomputable def F_num_bit (_E : FnA) (_n _n0 : Nat) (a0 a1 : AV) (bx : Bx) : Option (Ex × S) :=
  (pv bx (binA Try.prog .lss 3 a1 (.v (Go.Value.int Go.IntKind.i64 0)))).bind fun r1 =>
  (gsel false r1.2 (some (a1, r1.2)) r1.1).bind fun r2 =>
  (gsel false r2.2 (pv r2.2 (binA Try.prog .quo 3 r2.1 (.v (Go.Value.int Go.IntKind.i64 8)))) r1.1).bind fun r3 =>
  (gsel false r3.2 (some (a0, r3.2)) r1.1).bind fun r4 =>
  (gsel false r4.2 (pv r4.2 (lenA Try.prog 47 r4.1)) r1.1).bind fun r5 =>
  (gsel false r5.2 (pv r5.2 (binA Try.prog .geq 3 r3.1 r5.1)) r1.1).bind fun r6 =>
  (pv r6.2 (pickA r1.1 (.v (Go.Value.bool true)) r6.1)).bind fun r7 =>
  condA r7.1 (some (.ret, ⟨[(6, (.v (Go.Value.int Go.IntKind.i64 2))), (5, (.v (Go.Value.int Go.IntKind.u8 0))), (4, (.v (Go.Value.int Go.IntKind.i64 0))), (15, r7.1), (6, (.v (Go.Value.int Go.IntKind.i64 0))), (5, (.v (Go.Value.int Go.IntKind.u8 0))), (4, (.v (Go.Value.int Go.IntKind.i64 0))), (0, a0), (1, a1)], r7.2⟩)) ((pv r7.2 (binA Try.prog .quo 3 a1 (.v (Go.Value.int Go.IntKind.i64 8)))).bind fun r8 =>
  (pv r8.2 (binA Try.prog .rem 3 a1 (.v (Go.Value.int Go.IntKind.i64 8)))).bind fun r9 =>
  (pv r9.2 (binA Try.prog .shl 5 (.v (Go.Value.int Go.IntKind.u8 1)) r9.1)).bind fun r10 =>
  some (.ret, ⟨[(6, (.v (Go.Value.int Go.IntKind.i64 0))), (5, r10.1), (4, r8.1), (15, r7.1), (6, (.v (Go.Value.int Go.IntKind.i64 0))), (5, (.v (Go.Value.int Go.IntKind.u8 0))), (4, (.v (Go.Value.int Go.IntKind.i64 0))), (0, a0), (1, a1)], r10.2⟩))
theorem c_num_bit_eq : Try.f44.body = some c_num_bit := by kernel_rfl
theorem d_num_bit : drawsOk Try.prog md0 c_num_bit = true := by kernel_rfl
theorem F_num_bit_eq (E : FnA) (n n0 : Nat) (a0 a1 : AV) (bx : Bx) : evK Try.prog md0 E 21 kp_num_bit n n0 c_num_bit ⟨[(0, a0), (1, a1)], bx⟩ (fun s => some (.normal, s)) (fun i s => some (.exit i, s)) = F_num_bit E n n0 a0 a1 bx := by kernel_rfl

theorem E_num_bit (n : Nat) (a0 a1 : AV) (bx : Bx) : evFn cx0 ext0 (n + 1) 44 [a0, a1] bx = fin Try.prog [.tmp 4, .tmp 5, .tmp 6] (F_num_bit (evFn cx0 ext0 n) n bx.length a0 a1 bx) := by
  rw [evFn_eq2 (cx := cx0) (c := c_num_bit) rfl Try.func44 c_num_bit_eq (of_decide_eq_true (by kernel_rfl)) d_num_bit (of_decide_eq_true (by kernel_rfl))]
  exact congrArg (fin Try.prog [.tmp 4, .tmp 5, .tmp 6]) (F_num_bit_eq (evFn cx0 ext0 n) n bx.length a0 a1 bx)

/-- slices.Clone[[]byte,byte] -/
def kp_slices_Clone_byte_byte : Option (List Nat) := some [0, 2, 4]
noncomputable def c_slices_Clone_byte_byte : Code := Try.f45.body.getD .skip
noncomputable def F_slices_Clone_byte_byte (_E : FnA) (_n n0 : Nat) (a0 : AV) (bx : Bx) : Option (Ex × S) :=
  (some (AV.bsl (List.length bx) 0 0 0, bx ++ [[]])).bind fun r1 =>
  (pv r1.2 (binA Try.prog .eql 47 a0 (.v (Go.Value.slice none 0 0)))).bind fun r2 =>
  condA r2.1 ((some (AV.bsl (List.length r2.2) 0 0 0, r2.2 ++ [[]])).bind fun r3 =>
  some (.ret, ⟨[(2, r3.1), (4, r2.1), (2, r1.1), (0, a0)], r3.2⟩)) ((buildSliceA Try.prog r2.2 47 0 []).bind fun r4 =>
  (appA Try.prog n0 r4.2 47 r4.1 a0).bind fun r5 =>
  some (.ret, ⟨[(2, r5.1), (4, (r5.2.1 r2.1)), (2, (r5.2.1 r1.1)), (0, (r5.2.1 a0))], r5.2.2⟩))
theorem c_slices_Clone_byte_byte_eq : Try.f45.body = some c_slices_Clone_byte_byte := by kernel_rfl
theorem d_slices_Clone_byte_byte : drawsOk Try.prog md0 c_slices_Clone_byte_byte = true := by kernel_rfl
theorem F_slices_Clone_byte_byte_eq (E : FnA) (n n0 : Nat) (a0 : AV) (bx : Bx) : evK Try.prog md0 E 8 kp_slices_Clone_byte_byte n n0 c_slices_Clone_byte_byte ⟨[(0, a0)], bx⟩ (fun s => some (.normal, s)) (fun i s => some (.exit i, s)) = F_slices_Clone_byte_byte E n n0 a0 bx := by kernel_rfl

theorem E_slices_Clone_byte_byte (n : Nat) (a0 : AV) (bx : Bx) : evFn cx0 ext0 (n + 1) 45 [a0] bx = fin Try.prog [.tmp 2] (F_slices_Clone_byte_byte (evFn cx0 ext0 n) n bx.length a0 bx) := by
  rw [evFn_eq2 (cx := cx0) (c := c_slices_Clone_byte_byte) rfl Try.func45 c_slices_Clone_byte_byte_eq (of_decide_eq_true (by kernel_rfl)) d_slices_Clone_byte_byte (of_decide_eq_true (by kernel_rfl))]
  exact congrArg (fin Try.prog [.tmp 2]) (F_slices_Clone_byte_byte_eq (evFn cx0 ext0 n) n bx.length a0 bx)

/-- scupper/scupperref01.power -/
def kp_r01_power : Option (List Nat) := some [0, 2, 3, 4, 7]
noncomputable def c_r01_power : Code := Try.f46.body.getD .skip
noncomputable def L_r01_power_0 (_E : FnA) (_n _n0 : Nat) (s : S) : Option (Ex × S) :=
  (pv s.bx (binA Try.prog .lss 3 (get s.env 4) (get s.env 0))).bind fun r4 =>
  condA r4.1 ((pv r4.2 (binA Try.prog .mul 3 (.v (Go.Value.int Go.IntKind.i64 2)) (get (prune kp_r01_power s.env) 3))).bind fun r5 =>
  (pv r5.2 (binA Try.prog .add 3 (get (prune kp_r01_power (prune kp_r01_power s.env)) 4) (.v (Go.Value.int Go.IntKind.i64 1)))).bind fun r6 =>
  some (.normal, ⟨((4, r6.1) :: (3, r5.1) :: (7, r4.1) :: (prune kp_r01_power (prune kp_r01_power (prune kp_r01_power s.env)))), r6.2⟩)) (some (.exit 0, ⟨((7, r4.1) :: (prune kp_r01_power s.env)), r4.2⟩))
noncomputable def B_r01_power_0 (_E : FnA) (_n _n0 : Nat) (x4 x3 x2 x0 : AV) (y : Bx) : Option (Ex × S) :=
  (pv y (binA Try.prog .lss 3 x4 x0)).bind fun r1 =>
  condA r1.1 ((pv r1.2 (binA Try.prog .mul 3 (.v (Go.Value.int Go.IntKind.i64 2)) x3)).bind fun r2 =>
  (pv r2.2 (binA Try.prog .add 3 x4 (.v (Go.Value.int Go.IntKind.i64 1)))).bind fun r3 =>
  some (.normal, ⟨[(4, r3.1), (3, r2.1), (7, r1.1), (4, x4), (3, x3), (2, x2), (0, x0)], r3.2⟩)) (some (.exit 0, ⟨[(7, r1.1), (4, x4), (3, x3), (2, x2), (0, x0)], r1.2⟩))
theorem L_r01_power_0_lit {E : FnA} {n n0 : Nat} {x4 x3 x2 x0 : AV} {y : Bx} {Q : Ex → S → Prop} (h : Ends (B_r01_power_0 E n n0 x4 x3 x2 x0 y) Q) : Ends (L_r01_power_0 E n n0 ⟨[(4, x4), (3, x3), (2, x2), (0, x0)], y⟩) Q := by
  rw [show L_r01_power_0 E n n0 ⟨[(4, x4), (3, x3), (2, x2), (0, x0)], y⟩ = B_r01_power_0 E n n0 x4 x3 x2 x0 y by kernel_rfl]
  exact h
noncomputable def K_r01_power_0 (_E : FnA) (_n _n0 : Nat) (t : S) : Option (Ex × S) :=
  some (.ret, ⟨((2, (get t.env 3)) :: (prune kp_r01_power t.env)), t.bx⟩)
noncomputable def X_r01_power_0 (_E : FnA) (_n _n0 : Nat) (i : Nat) (t : S) : Option (Ex × S) :=
  if i = 0 then some (.ret, ⟨((2, (get t.env 3)) :: (prune kp_r01_power t.env)), t.bx⟩) else some (.exit i, ⟨t.env, t.bx⟩)
noncomputable def X_r01_power_0_0 (_E : FnA) (_n _n0 : Nat) (x7 x4 x3 x2 x0 : AV) (y : Bx) : Option (Ex × S) :=
  some (.ret, ⟨[(2, x3), (7, x7), (4, x4), (3, x3), (2, x2), (0, x0)], y⟩)
theorem X_r01_power_0_0_lit {E : FnA} {n n0 : Nat} {x7 x4 x3 x2 x0 : AV} {y : Bx} {Q : Ex → S → Prop} (h : Ends (X_r01_power_0_0 E n n0 x7 x4 x3 x2 x0 y) Q) : Ends (X_r01_power_0 E n n0 0 ⟨[(7, x7), (4, x4), (3, x3), (2, x2), (0, x0)], y⟩) Q := by
  rw [show X_r01_power_0 E n n0 0 ⟨[(7, x7), (4, x4), (3, x3), (2, x2), (0, x0)], y⟩ = X_r01_power_0_0 E n n0 x7 x4 x3 x2 x0 y by kernel_rfl]
  exact h
noncomputable def F_r01_power (E : FnA) (n n0 : Nat) (a0 : AV) (bx : Bx) : Option (Ex × S) :=
  exitA (iter ⟨[(4, (.v (Go.Value.int Go.IntKind.i64 0))), (3, (.v (Go.Value.int Go.IntKind.i64 1))), (2, (.v (Go.Value.int Go.IntKind.i64 0))), (0, a0)], bx⟩ (L_r01_power_0 E n n0) n ⟨[(4, (.v (Go.Value.int Go.IntKind.i64 0))), (3, (.v (Go.Value.int Go.IntKind.i64 1))), (2, (.v (Go.Value.int Go.IntKind.i64 0))), (0, a0)], bx⟩) (K_r01_power_0 E n n0) (X_r01_power_0 E n n0)
theorem c_r01_power_eq : Try.f46.body = some c_r01_power := by kernel_rfl
theorem d_r01_power : drawsOk Try.prog md0 c_r01_power = true := by kernel_rfl
theorem F_r01_power_eq (E : FnA) (n n0 : Nat) (a0 : AV) (bx : Bx) : evK Try.prog md0 E 13 kp_r01_power n n0 c_r01_power ⟨[(0, a0)], bx⟩ (fun s => some (.normal, s)) (fun i s => some (.exit i, s)) = F_r01_power E n n0 a0 bx := by kernel_rfl

theorem E_r01_power (n : Nat) (a0 : AV) (bx : Bx) : evFn cx0 ext0 (n + 1) 46 [a0] bx = fin Try.prog [.tmp 2] (F_r01_power (evFn cx0 ext0 n) n bx.length a0 bx) := by
  rw [evFn_eq2 (cx := cx0) (c := c_r01_power) rfl Try.func46 c_r01_power_eq (of_decide_eq_true (by kernel_rfl)) d_r01_power (of_decide_eq_true (by kernel_rfl))]
  exact congrArg (fin Try.prog [.tmp 2]) (F_r01_power_eq (evFn cx0 ext0 n) n bx.length a0 bx)

/-- scupper/geom.Check$1 -/
def kp_geom_Check_1 : Option (List Nat) := some [0, 1, 2, 6]
noncomputable def c_geom_Check_1 : Code := Try.f47.body.getD .skip
noncomputable def F_geom_Check_1 (_E : FnA) (_n _n0 : Nat) (a0 a1 a2 : AV) (bx : Bx) : Option (Ex × S) :=
  (pv bx (binA Try.prog .geq 3 a0 a1)).bind fun r1 =>
  (gsel true r1.2 (some (a0, r1.2)) r1.1).bind fun r2 =>
  (gsel true r2.2 (some (a2, r2.2)) r1.1).bind fun r3 =>
  (gsel true r3.2 (pv r3.2 (binA Try.prog .leq 3 r2.1 r3.1)) r1.1).bind fun r4 =>
  (pv r4.2 (pickA r1.1 r4.1 (.v (Go.Value.bool false)))).bind fun r5 =>
  some (.ret, ⟨[(6, r5.1), (6, (.v (Go.Value.bool false))), (0, a0), (1, a1), (2, a2)], r5.2⟩)
theorem c_geom_Check_1_eq : Try.f47.body = some c_geom_Check_1 := by kernel_rfl
theorem d_geom_Check_1 : drawsOk Try.prog md0 c_geom_Check_1 = true := by kernel_rfl
theorem F_geom_Check_1_eq (E : FnA) (n n0 : Nat) (a0 a1 a2 : AV) (bx : Bx) : evK Try.prog md0 E 15 kp_geom_Check_1 n n0 c_geom_Check_1 ⟨[(0, a0), (1, a1), (2, a2)], bx⟩ (fun s => some (.normal, s)) (fun i s => some (.exit i, s)) = F_geom_Check_1 E n n0 a0 a1 a2 bx := by kernel_rfl

theorem E_geom_Check_1 (n : Nat) (a0 a1 a2 : AV) (bx : Bx) : evFn cx0 ext0 (n + 1) 47 [a0, a1, a2] bx = fin Try.prog [.tmp 6] (F_geom_Check_1 (evFn cx0 ext0 n) n bx.length a0 a1 a2 bx) := by
  rw [evFn_eq2 (cx := cx0) (c := c_geom_Check_1) rfl Try.func47 c_geom_Check_1_eq (of_decide_eq_true (by kernel_rfl)) d_geom_Check_1 (of_decide_eq_true (by kernel_rfl))]
  exact congrArg (fin Try.prog [.tmp 6]) (F_geom_Check_1_eq (evFn cx0 ext0 n) n bx.length a0 a1 a2 bx)

end Go.Sy
