/-
  What the functions under this seat's laws read as, in the reader's words; no conditions.
-/
import Derived.Test.YtkpoapobhgleaaaSyStep
import Derived.Test.YtkpoapobhgleaaaProg
import Derived.KernelRfl
namespace Go.Sy
open Go.Proofs
def kpT : FuncId → Option (List Nat)
  | 3 => some [0, 1, 2]
  | 4 => some [0, 1, 2, 3, 6, 7, 8, 9, 10, 11, 12, 61]
  | 5 => some [0, 1, 2, 3, 6, 7, 8, 9, 10, 11, 12, 13, 14, 15, 16, 17, 18, 19, 20, 21, 22, 23, 24, 25, 26, 27]
  | 6 => some [0, 1, 2, 6, 7, 8, 9, 10, 12, 14, 16, 18, 19, 21, 23, 24, 25, 26, 28, 30, 46, 54, 90, 106, 126, 136, 171, 174, 185, 192]
  | 7 => some [0, 1, 2, 3, 27]
  | 8 => some [0, 1, 2, 30]
  | 9 => some [0, 1, 2, 5]
  | 10 => some [0, 1, 2, 5]
  | 11 => some [0, 1, 2, 5]
  | 12 => some [0, 1, 2, 5]
  | 13 => some [0, 1, 2, 3]
  | 14 => some [0, 1, 2, 4, 5, 6, 7, 15]
  | 15 => some [0, 1, 2, 4, 5, 6, 7, 8, 9, 23]
  | 16 => some [0, 1, 2, 4, 5]
  | 17 => some [0, 1, 2, 4, 5]
  | 18 => some [0, 1, 2, 4, 5]
  | 19 => some [0, 1, 2, 4, 5, 6, 7, 15]
  | 20 => some [0, 1, 2, 3, 6, 7, 15]
  | 21 => some [0, 1, 2, 3, 6, 7, 8, 9, 27]
  | 22 => some [0, 1, 2, 4, 5, 6, 7, 15, 18, 39, 43, 47]
  | 23 => some [0, 1, 2, 4, 5, 6, 7, 20, 23, 45, 49, 56]
  | 24 => some [0, 1, 4, 6]
  | 25 => some [0, 1, 2, 6]
  | 26 => some [0, 1, 2]
  | 27 => some [0, 1, 2, 3, 6, 7, 20]
  | 28 => some [0, 1, 2, 4, 5, 18]
  | _ => none
def mdT : FuncId → FuncId → Md
  | _ => md0
noncomputable def cx0 : Cx := { P := Try.prog, md := mdT, kp := kpT }
def ext0 : FnA := fun _ _ _ => none
theorem ext0_ok (f : FuncId) (args : List AV) (bx : Bx) (r : AV) (bx' : Bx) (h : ext0 f args bx = some (r, bx')) : Sound cx0.P f args bx r bx' := by simp [ext0] at h
/-- scupper/scupperlaw06.GeomSizes -/
def kp_l06_GeomSizes : Option (List Nat) := some [0, 1, 2]
noncomputable def c_l06_GeomSizes : Code := Try.f3.body.getD .skip
noncomputable def F_l06_GeomSizes (E : FnA) (_n _n0 : Nat) (a0 : AV) (bx : Bx) : Option (Ex × S) :=
  (boxA bx a0).bind fun r1 =>
  (pv r1.2 (loadA Try.prog 23 r1.2 r1.1)).bind fun r2 =>
  (callA E md0 r2.2 7 [r2.1]).bind fun r3 =>
  (pv r3.2 (loadA Try.prog 23 r3.2 r1.1)).bind fun r4 =>
  (callA E md0 r4.2 8 [r4.1]).bind fun r5 =>
  (pv r5.2 (binA Try.prog .eql 24 r3.1 r5.1)).bind fun r6 =>
  (gsel true r6.2 (pv r6.2 (loadA Try.prog 23 r6.2 r1.1)) r6.1).bind fun r7 =>
  (gsel true r7.2 (callA E md0 r7.2 9 [r7.1]) r6.1).bind fun r8 =>
  (gsel true r8.2 (pv r8.2 (loadA Try.prog 23 r8.2 r1.1)) r6.1).bind fun r9 =>
  (gsel true r9.2 (callA E md0 r9.2 10 [r9.1]) r6.1).bind fun r10 =>
  (gsel true r10.2 (pv r10.2 (binA Try.prog .eql 3 r8.1 r10.1)) r6.1).bind fun r11 =>
  (pv r11.2 (pickA r6.1 r11.1 (.v (Go.Value.bool false)))).bind fun r12 =>
  (gsel true r12.2 (pv r12.2 (loadA Try.prog 23 r12.2 r1.1)) r12.1).bind fun r13 =>
  (gsel true r13.2 (callA E md0 r13.2 11 [r13.1]) r12.1).bind fun r14 =>
  (gsel true r14.2 (pv r14.2 (loadA Try.prog 23 r14.2 r1.1)) r12.1).bind fun r15 =>
  (gsel true r15.2 (callA E md0 r15.2 12 [r15.1]) r12.1).bind fun r16 =>
  (gsel true r16.2 (pv r16.2 (binA Try.prog .eql 3 r14.1 r16.1)) r12.1).bind fun r17 =>
  (pv r17.2 (pickA r12.1 r17.1 (.v (Go.Value.bool false)))).bind fun r18 =>
  (gsel true r18.2 (callA E md0 r18.2 13 []) r18.1).bind fun r19 =>
  (pv r19.2 (pickA r18.1 r19.1 (.v (Go.Value.bool false)))).bind fun r20 =>
  some (.ret, ⟨[(2, r20.1), (2, (.v (Go.Value.bool false))), (1, r1.1), (0, a0)], r20.2⟩)
theorem c_l06_GeomSizes_eq : Try.f3.body = some c_l06_GeomSizes := by kernel_rfl
theorem d_l06_GeomSizes : drawsOk Try.prog md0 c_l06_GeomSizes = true := by kernel_rfl
theorem F_l06_GeomSizes_eq (E : FnA) (n n0 : Nat) (a0 : AV) (bx : Bx) : evK Try.prog md0 E 25 kp_l06_GeomSizes n n0 c_l06_GeomSizes ⟨[(0, a0)], bx⟩ (fun s => some (.normal, s)) (fun i s => some (.exit i, s)) = F_l06_GeomSizes E n n0 a0 bx := by kernel_rfl

theorem E_l06_GeomSizes (n : Nat) (a0 : AV) (bx : Bx) : evFn cx0 ext0 (n + 1) 3 [a0] bx = fin Try.prog [.tmp 2] (F_l06_GeomSizes (evFn cx0 ext0 n) n bx.length a0 bx) := by
  rw [evFn_eq2 (cx := cx0) (c := c_l06_GeomSizes) rfl Try.func3 c_l06_GeomSizes_eq (of_decide_eq_true (by kernel_rfl)) d_l06_GeomSizes (of_decide_eq_true (by kernel_rfl))]
  exact congrArg (fin Try.prog [.tmp 2]) (F_l06_GeomSizes_eq (evFn cx0 ext0 n) n bx.length a0 bx)

/-- scupper/scupperlaw06.GeomInodes -/
def kp_l06_GeomInodes : Option (List Nat) := some [0, 1, 2, 3, 6, 7, 8, 9, 10, 11, 12, 61]
noncomputable def c_l06_GeomInodes : Code := Try.f4.body.getD .skip
noncomputable def F_l06_GeomInodes (E : FnA) (_n _n0 : Nat) (a0 a1 a2 : AV) (bx : Bx) : Option (Ex × S) :=
  (boxA bx a0).bind fun r1 =>
  (pv r1.2 (loadA Try.prog 23 r1.2 r1.1)).bind fun r2 =>
  (callA E md0 r2.2 14 [r2.1, a1]).bind fun r3 =>
  (pv r3.2 (tupA r3.1 0)).bind fun r4 =>
  (pv r4.2 (tupA r3.1 1)).bind fun r5 =>
  (allocA Try.prog r5.2 30).bind fun r6 =>
  (stA Try.prog 30 r6.2 r6.1 r4.1).bind fun r7 =>
  (pv r7.2 (loadA Try.prog 23 r7.2 r1.1)).bind fun r8 =>
  (callA E md0 r8.2 15 [r8.1, a1]).bind fun r9 =>
  (pv r9.2 (tupA r9.1 0)).bind fun r10 =>
  (pv r10.2 (tupA r9.1 1)).bind fun r11 =>
  (allocA Try.prog r11.2 33).bind fun r12 =>
  (stA Try.prog 33 r12.2 r12.1 r10.1).bind fun r13 =>
  (pv r13.2 (loadA Try.prog 23 r13.2 r1.1)).bind fun r14 =>
  (callA E md0 r14.2 14 [r14.1, a2]).bind fun r15 =>
  (pv r15.2 (tupA r15.1 0)).bind fun r16 =>
  (pv r16.2 (tupA r15.1 1)).bind fun r17 =>
  (allocA Try.prog r17.2 30).bind fun r18 =>
  (stA Try.prog 30 r18.2 r18.1 r16.1).bind fun r19 =>
  (pv r19.2 (binA Try.prog .neq 24 r5.1 r11.1)).bind fun r20 =>
  (gsel false r20.2 (pv r20.2 (fieldAddrA Try.prog 30 r6.1 0)) r20.1).bind fun r21 =>
  (gsel false r21.2 (pv r21.2 (loadA Try.prog 3 r21.2 r21.1)) r20.1).bind fun r22 =>
  (gsel false r22.2 (pv r22.2 (fieldAddrA Try.prog 33 r12.1 0)) r20.1).bind fun r23 =>
  (gsel false r23.2 (pv r23.2 (loadA Try.prog 3 r23.2 r23.1)) r20.1).bind fun r24 =>
  (gsel false r24.2 (pv r24.2 (binA Try.prog .neq 3 r22.1 r24.1)) r20.1).bind fun r25 =>
  (pv r25.2 (pickA r20.1 (.v (Go.Value.bool true)) r25.1)).bind fun r26 =>
  (gsel false r26.2 (pv r26.2 (fieldAddrA Try.prog 30 r6.1 1)) r26.1).bind fun r27 =>
  (gsel false r27.2 (pv r27.2 (loadA Try.prog 3 r27.2 r27.1)) r26.1).bind fun r28 =>
  (gsel false r28.2 (pv r28.2 (fieldAddrA Try.prog 33 r12.1 1)) r26.1).bind fun r29 =>
  (gsel false r29.2 (pv r29.2 (loadA Try.prog 3 r29.2 r29.1)) r26.1).bind fun r30 =>
  (gsel false r30.2 (pv r30.2 (binA Try.prog .neq 3 r28.1 r30.1)) r26.1).bind fun r31 =>
  (pv r31.2 (pickA r26.1 (.v (Go.Value.bool true)) r31.1)).bind fun r32 =>
  (gsel false r32.2 (pv r32.2 (fieldAddrA Try.prog 30 r6.1 2)) r32.1).bind fun r33 =>
  (gsel false r33.2 (pv r33.2 (loadA Try.prog 3 r33.2 r33.1)) r32.1).bind fun r34 =>
  (gsel false r34.2 (pv r34.2 (fieldAddrA Try.prog 33 r12.1 2)) r32.1).bind fun r35 =>
  (gsel false r35.2 (pv r35.2 (loadA Try.prog 3 r35.2 r35.1)) r32.1).bind fun r36 =>
  (gsel false r36.2 (pv r36.2 (binA Try.prog .neq 3 r34.1 r36.1)) r32.1).bind fun r37 =>
  (pv r37.2 (pickA r32.1 (.v (Go.Value.bool true)) r37.1)).bind fun r38 =>
  (gsel false r38.2 (pv r38.2 (fieldAddrA Try.prog 30 r6.1 3)) r38.1).bind fun r39 =>
  (gsel false r39.2 (pv r39.2 (loadA Try.prog 3 r39.2 r39.1)) r38.1).bind fun r40 =>
  (gsel false r40.2 (pv r40.2 (fieldAddrA Try.prog 33 r12.1 3)) r38.1).bind fun r41 =>
  (gsel false r41.2 (pv r41.2 (loadA Try.prog 3 r41.2 r41.1)) r38.1).bind fun r42 =>
  (gsel false r42.2 (pv r42.2 (binA Try.prog .neq 3 r40.1 r42.1)) r38.1).bind fun r43 =>
  (pv r43.2 (pickA r38.1 (.v (Go.Value.bool true)) r43.1)).bind fun r44 =>
  condA r44.1 (some (.ret, ⟨[(6, (.v (Go.Value.bool false))), (61, r44.1), (12, r17.1), (11, r18.1), (10, r11.1), (9, r12.1), (8, r5.1), (7, r6.1), (6, (.v (Go.Value.bool false))), (3, r1.1), (0, a0), (1, a1), (2, a2)], r44.2⟩)) ((pv r44.2 (binA Try.prog .neq 24 r5.1 (.v (Go.Value.int Go.IntKind.i64 0)))).bind fun r45 =>
  (gsel false r45.2 (some (r17.1, r45.2)) r45.1).bind fun r46 =>
  (gsel false r46.2 (pv r46.2 (binA Try.prog .neq 24 r46.1 (.v (Go.Value.int Go.IntKind.i64 0)))) r45.1).bind fun r47 =>
  (pv r47.2 (pickA r45.1 (.v (Go.Value.bool true)) r47.1)).bind fun r48 =>
  (gsel false r48.2 (some (a1, r48.2)) r48.1).bind fun r49 =>
  (gsel false r49.2 (some (a2, r49.2)) r48.1).bind fun r50 =>
  (gsel false r50.2 (pv r50.2 (binA Try.prog .eql 3 r49.1 r50.1)) r48.1).bind fun r51 =>
  (pv r51.2 (pickA r48.1 (.v (Go.Value.bool true)) r51.1)).bind fun r52 =>
  (gsel false r52.2 (pv r52.2 (fieldAddrA Try.prog 30 r6.1 0)) r52.1).bind fun r53 =>
  (gsel false r53.2 (pv r53.2 (loadA Try.prog 3 r53.2 r53.1)) r52.1).bind fun r54 =>
  (gsel false r54.2 (pv r54.2 (fieldAddrA Try.prog 30 r18.1 0)) r52.1).bind fun r55 =>
  (gsel false r55.2 (pv r55.2 (loadA Try.prog 3 r55.2 r55.1)) r52.1).bind fun r56 =>
  (gsel false r56.2 (pv r56.2 (binA Try.prog .neq 3 r54.1 r56.1)) r52.1).bind fun r57 =>
  (pv r57.2 (pickA r52.1 (.v (Go.Value.bool true)) r57.1)).bind fun r58 =>
  (gsel false r58.2 (pv r58.2 (fieldAddrA Try.prog 30 r6.1 1)) r58.1).bind fun r59 =>
  (gsel false r59.2 (pv r59.2 (loadA Try.prog 3 r59.2 r59.1)) r58.1).bind fun r60 =>
  (gsel false r60.2 (pv r60.2 (fieldAddrA Try.prog 30 r18.1 1)) r58.1).bind fun r61 =>
  (gsel false r61.2 (pv r61.2 (loadA Try.prog 3 r61.2 r61.1)) r58.1).bind fun r62 =>
  (gsel false r62.2 (pv r62.2 (binA Try.prog .neq 3 r60.1 r62.1)) r58.1).bind fun r63 =>
  (pv r63.2 (pickA r58.1 (.v (Go.Value.bool true)) r63.1)).bind fun r64 =>
  (gsel true r64.2 (callA E md0 r64.2 13 []) r64.1).bind fun r65 =>
  (pv r65.2 (pickA r64.1 r65.1 (.v (Go.Value.bool false)))).bind fun r66 =>
  some (.ret, ⟨[(6, r66.1), (61, r44.1), (12, r17.1), (11, r18.1), (10, r11.1), (9, r12.1), (8, r5.1), (7, r6.1), (6, (.v (Go.Value.bool false))), (3, r1.1), (0, a0), (1, a1), (2, a2)], r66.2⟩))
theorem c_l06_GeomInodes_eq : Try.f4.body = some c_l06_GeomInodes := by kernel_rfl
theorem d_l06_GeomInodes : drawsOk Try.prog md0 c_l06_GeomInodes = true := by kernel_rfl
theorem F_l06_GeomInodes_eq (E : FnA) (n n0 : Nat) (a0 a1 a2 : AV) (bx : Bx) : evK Try.prog md0 E 90 kp_l06_GeomInodes n n0 c_l06_GeomInodes ⟨[(0, a0), (1, a1), (2, a2)], bx⟩ (fun s => some (.normal, s)) (fun i s => some (.exit i, s)) = F_l06_GeomInodes E n n0 a0 a1 a2 bx := by kernel_rfl

theorem E_l06_GeomInodes (n : Nat) (a0 a1 a2 : AV) (bx : Bx) : evFn cx0 ext0 (n + 1) 4 [a0, a1, a2] bx = fin Try.prog [.tmp 6] (F_l06_GeomInodes (evFn cx0 ext0 n) n bx.length a0 a1 a2 bx) := by
  rw [evFn_eq2 (cx := cx0) (c := c_l06_GeomInodes) rfl Try.func4 c_l06_GeomInodes_eq (of_decide_eq_true (by kernel_rfl)) d_l06_GeomInodes (of_decide_eq_true (by kernel_rfl))]
  exact congrArg (fin Try.prog [.tmp 6]) (F_l06_GeomInodes_eq (evFn cx0 ext0 n) n bx.length a0 a1 a2 bx)

/-- scupper/scupperlaw06.GeomTells -/
def kp_l06_GeomTells : Option (List Nat) := some [0, 1, 2, 3, 6, 7, 8, 9, 10, 11, 12, 13, 14, 15, 16, 17, 18, 19, 20, 21, 22, 23, 24, 25, 26, 27]
noncomputable def c_l06_GeomTells : Code := Try.f5.body.getD .skip
noncomputable def F_l06_GeomTells (E : FnA) (_n _n0 : Nat) (a0 a1 a2 : AV) (bx : Bx) : Option (Ex × S) :=
  (boxA bx a0).bind fun r1 =>
  (pv r1.2 (loadA Try.prog 23 r1.2 r1.1)).bind fun r2 =>
  (callA E md0 r2.2 16 [r2.1, a1]).bind fun r3 =>
  (pv r3.2 (tupA r3.1 0)).bind fun r4 =>
  (pv r4.2 (tupA r3.1 1)).bind fun r5 =>
  (pv r5.2 (loadA Try.prog 23 r5.2 r1.1)).bind fun r6 =>
  (callA E md0 r6.2 17 [r6.1, a1]).bind fun r7 =>
  (pv r7.2 (tupA r7.1 0)).bind fun r8 =>
  (pv r8.2 (tupA r7.1 1)).bind fun r9 =>
  (pv r9.2 (loadA Try.prog 23 r9.2 r1.1)).bind fun r10 =>
  (callA E md0 r10.2 18 [r10.1, a1]).bind fun r11 =>
  (pv r11.2 (tupA r11.1 0)).bind fun r12 =>
  (pv r12.2 (tupA r11.1 1)).bind fun r13 =>
  (pv r13.2 (loadA Try.prog 23 r13.2 r1.1)).bind fun r14 =>
  (callA E md0 r14.2 19 [r14.1, a1]).bind fun r15 =>
  (pv r15.2 (tupA r15.1 0)).bind fun r16 =>
  (pv r16.2 (tupA r15.1 1)).bind fun r17 =>
  (pv r17.2 (loadA Try.prog 23 r17.2 r1.1)).bind fun r18 =>
  (callA E md0 r18.2 14 [r18.1, a2]).bind fun r19 =>
  (pv r19.2 (tupA r19.1 0)).bind fun r20 =>
  (pv r20.2 (tupA r19.1 1)).bind fun r21 =>
  (allocA Try.prog r21.2 30).bind fun r22 =>
  (stA Try.prog 30 r22.2 r22.1 r20.1).bind fun r23 =>
  (pv r23.2 (loadA Try.prog 23 r23.2 r1.1)).bind fun r24 =>
  (callA E md0 r24.2 15 [r24.1, a2]).bind fun r25 =>
  (pv r25.2 (tupA r25.1 0)).bind fun r26 =>
  (pv r26.2 (tupA r25.1 1)).bind fun r27 =>
  (allocA Try.prog r27.2 33).bind fun r28 =>
  (stA Try.prog 33 r28.2 r28.1 r26.1).bind fun r29 =>
  (pv r29.2 (loadA Try.prog 23 r29.2 r1.1)).bind fun r30 =>
  (callA E md0 r30.2 20 [r30.1, a1, a2]).bind fun r31 =>
  (pv r31.2 (tupA r31.1 0)).bind fun r32 =>
  (pv r32.2 (tupA r31.1 1)).bind fun r33 =>
  (pv r33.2 (loadA Try.prog 23 r33.2 r1.1)).bind fun r34 =>
  (callA E md0 r34.2 21 [r34.1, a1, a2]).bind fun r35 =>
  (pv r35.2 (tupA r35.1 0)).bind fun r36 =>
  (pv r36.2 (tupA r35.1 1)).bind fun r37 =>
  (pv r37.2 (loadA Try.prog 23 r37.2 r1.1)).bind fun r38 =>
  (callA E md0 r38.2 22 [r38.1, a2]).bind fun r39 =>
  (pv r39.2 (tupA r39.1 0)).bind fun r40 =>
  (pv r40.2 (tupA r39.1 1)).bind fun r41 =>
  (allocA Try.prog r41.2 41).bind fun r42 =>
  (stA Try.prog 41 r42.2 r42.1 r40.1).bind fun r43 =>
  (pv r43.2 (loadA Try.prog 23 r43.2 r1.1)).bind fun r44 =>
  (callA E md0 r44.2 23 [r44.1, a2]).bind fun r45 =>
  (pv r45.2 (tupA r45.1 0)).bind fun r46 =>
  (pv r46.2 (tupA r45.1 1)).bind fun r47 =>
  (allocA Try.prog r47.2 44).bind fun r48 =>
  (stA Try.prog 44 r48.2 r48.1 r46.1).bind fun r49 =>
  (pv r49.2 (fieldAddrA Try.prog 30 r22.1 0)).bind fun r50 =>
  (pv r50.2 (loadA Try.prog 3 r50.2 r50.1)).bind fun r51 =>
  (pv r51.2 (fieldAddrA Try.prog 33 r28.1 0)).bind fun r52 =>
  (pv r52.2 (loadA Try.prog 3 r52.2 r52.1)).bind fun r53 =>
  (pv r53.2 (binA Try.prog .eql 3 r51.1 r53.1)).bind fun r54 =>
  (gsel true r54.2 (pv r54.2 (fieldAddrA Try.prog 30 r22.1 1)) r54.1).bind fun r55 =>
  (gsel true r55.2 (pv r55.2 (loadA Try.prog 3 r55.2 r55.1)) r54.1).bind fun r56 =>
  (gsel true r56.2 (pv r56.2 (fieldAddrA Try.prog 33 r28.1 1)) r54.1).bind fun r57 =>
  (gsel true r57.2 (pv r57.2 (loadA Try.prog 3 r57.2 r57.1)) r54.1).bind fun r58 =>
  (gsel true r58.2 (pv r58.2 (binA Try.prog .eql 3 r56.1 r58.1)) r54.1).bind fun r59 =>
  (pv r59.2 (pickA r54.1 r59.1 (.v (Go.Value.bool false)))).bind fun r60 =>
  (gsel true r60.2 (pv r60.2 (fieldAddrA Try.prog 30 r22.1 2)) r60.1).bind fun r61 =>
  (gsel true r61.2 (pv r61.2 (loadA Try.prog 3 r61.2 r61.1)) r60.1).bind fun r62 =>
  (gsel true r62.2 (pv r62.2 (fieldAddrA Try.prog 33 r28.1 2)) r60.1).bind fun r63 =>
  (gsel true r63.2 (pv r63.2 (loadA Try.prog 3 r63.2 r63.1)) r60.1).bind fun r64 =>
  (gsel true r64.2 (pv r64.2 (binA Try.prog .eql 3 r62.1 r64.1)) r60.1).bind fun r65 =>
  (pv r65.2 (pickA r60.1 r65.1 (.v (Go.Value.bool false)))).bind fun r66 =>
  (gsel true r66.2 (pv r66.2 (fieldAddrA Try.prog 30 r22.1 3)) r66.1).bind fun r67 =>
  (gsel true r67.2 (pv r67.2 (loadA Try.prog 3 r67.2 r67.1)) r66.1).bind fun r68 =>
  (gsel true r68.2 (pv r68.2 (fieldAddrA Try.prog 33 r28.1 3)) r66.1).bind fun r69 =>
  (gsel true r69.2 (pv r69.2 (loadA Try.prog 3 r69.2 r69.1)) r66.1).bind fun r70 =>
  (gsel true r70.2 (pv r70.2 (binA Try.prog .eql 3 r68.1 r70.1)) r66.1).bind fun r71 =>
  (pv r71.2 (pickA r66.1 r71.1 (.v (Go.Value.bool false)))).bind fun r72 =>
  (gsel true r72.2 (pv r72.2 (fieldAddrA Try.prog 41 r42.1 0)) r72.1).bind fun r73 =>
  (gsel true r73.2 (pv r73.2 (loadA Try.prog 3 r73.2 r73.1)) r72.1).bind fun r74 =>
  (gsel true r74.2 (pv r74.2 (fieldAddrA Try.prog 44 r48.1 0)) r72.1).bind fun r75 =>
  (gsel true r75.2 (pv r75.2 (loadA Try.prog 3 r75.2 r75.1)) r72.1).bind fun r76 =>
  (gsel true r76.2 (pv r76.2 (binA Try.prog .eql 3 r74.1 r76.1)) r72.1).bind fun r77 =>
  (pv r77.2 (pickA r72.1 r77.1 (.v (Go.Value.bool false)))).bind fun r78 =>
  (gsel true r78.2 (pv r78.2 (fieldAddrA Try.prog 41 r42.1 1)) r78.1).bind fun r79 =>
  (gsel true r79.2 (pv r79.2 (loadA Try.prog 3 r79.2 r79.1)) r78.1).bind fun r80 =>
  (gsel true r80.2 (pv r80.2 (fieldAddrA Try.prog 44 r48.1 1)) r78.1).bind fun r81 =>
  (gsel true r81.2 (pv r81.2 (loadA Try.prog 3 r81.2 r81.1)) r78.1).bind fun r82 =>
  (gsel true r82.2 (pv r82.2 (binA Try.prog .eql 3 r80.1 r82.1)) r78.1).bind fun r83 =>
  (pv r83.2 (pickA r78.1 r83.1 (.v (Go.Value.bool false)))).bind fun r84 =>
  (gsel true r84.2 (pv r84.2 (fieldAddrA Try.prog 41 r42.1 2)) r84.1).bind fun r85 =>
  (gsel true r85.2 (pv r85.2 (loadA Try.prog 3 r85.2 r85.1)) r84.1).bind fun r86 =>
  (gsel true r86.2 (pv r86.2 (fieldAddrA Try.prog 44 r48.1 2)) r84.1).bind fun r87 =>
  (gsel true r87.2 (pv r87.2 (loadA Try.prog 3 r87.2 r87.1)) r84.1).bind fun r88 =>
  (gsel true r88.2 (pv r88.2 (binA Try.prog .eql 3 r86.1 r88.1)) r84.1).bind fun r89 =>
  (pv r89.2 (pickA r84.1 r89.1 (.v (Go.Value.bool false)))).bind fun r90 =>
  (pv r90.2 (loadA Try.prog 23 r90.2 r1.1)).bind fun r91 =>
  (callA E md0 r91.2 7 [r91.1]).bind fun r92 =>
  (pv r92.2 (loadA Try.prog 23 r92.2 r1.1)).bind fun r93 =>
  (callA E md0 r93.2 8 [r93.1]).bind fun r94 =>
  (pv r94.2 (binA Try.prog .eql 24 r92.1 r94.1)).bind fun r95 =>
  (gsel true r95.2 (pv r95.2 (loadA Try.prog 23 r95.2 r1.1)) r95.1).bind fun r96 =>
  (gsel true r96.2 (callA E md0 r96.2 9 [r96.1]) r95.1).bind fun r97 =>
  (gsel true r97.2 (pv r97.2 (loadA Try.prog 23 r97.2 r1.1)) r95.1).bind fun r98 =>
  (gsel true r98.2 (callA E md0 r98.2 10 [r98.1]) r95.1).bind fun r99 =>
  (gsel true r99.2 (pv r99.2 (binA Try.prog .eql 3 r97.1 r99.1)) r95.1).bind fun r100 =>
  (pv r100.2 (pickA r95.1 r100.1 (.v (Go.Value.bool false)))).bind fun r101 =>
  (gsel true r101.2 (pv r101.2 (loadA Try.prog 23 r101.2 r1.1)) r101.1).bind fun r102 =>
  (gsel true r102.2 (callA E md0 r102.2 11 [r102.1]) r101.1).bind fun r103 =>
  (gsel true r103.2 (pv r103.2 (loadA Try.prog 23 r103.2 r1.1)) r101.1).bind fun r104 =>
  (gsel true r104.2 (callA E md0 r104.2 12 [r104.1]) r101.1).bind fun r105 =>
  (gsel true r105.2 (pv r105.2 (binA Try.prog .eql 3 r103.1 r105.1)) r101.1).bind fun r106 =>
  (pv r106.2 (pickA r101.1 r106.1 (.v (Go.Value.bool false)))).bind fun r107 =>
  (gsel true r107.2 (some (r4.1, r107.2)) r107.1).bind fun r108 =>
  (gsel true r108.2 (some (r8.1, r108.2)) r107.1).bind fun r109 =>
  (gsel true r109.2 (pv r109.2 (binA Try.prog .eql 3 r108.1 r109.1)) r107.1).bind fun r110 =>
  (pv r110.2 (pickA r107.1 r110.1 (.v (Go.Value.bool false)))).bind fun r111 =>
  (gsel true r111.2 (some (r5.1, r111.2)) r111.1).bind fun r112 =>
  (gsel true r112.2 (some (r9.1, r112.2)) r111.1).bind fun r113 =>
  (gsel true r113.2 (pv r113.2 (binA Try.prog .eql 24 r112.1 r113.1)) r111.1).bind fun r114 =>
  (pv r114.2 (pickA r111.1 r114.1 (.v (Go.Value.bool false)))).bind fun r115 =>
  (gsel true r115.2 (some (r12.1, r115.2)) r115.1).bind fun r116 =>
  (gsel true r116.2 (some (r16.1, r116.2)) r115.1).bind fun r117 =>
  (gsel true r117.2 (pv r117.2 (binA Try.prog .eql 3 r116.1 r117.1)) r115.1).bind fun r118 =>
  (pv r118.2 (pickA r115.1 r118.1 (.v (Go.Value.bool false)))).bind fun r119 =>
  (gsel true r119.2 (some (r13.1, r119.2)) r119.1).bind fun r120 =>
  (gsel true r120.2 (some (r17.1, r120.2)) r119.1).bind fun r121 =>
  (gsel true r121.2 (pv r121.2 (binA Try.prog .eql 24 r120.1 r121.1)) r119.1).bind fun r122 =>
  (pv r122.2 (pickA r119.1 r122.1 (.v (Go.Value.bool false)))).bind fun r123 =>
  (gsel true r123.2 (some (r21.1, r123.2)) r123.1).bind fun r124 =>
  (gsel true r124.2 (some (r27.1, r124.2)) r123.1).bind fun r125 =>
  (gsel true r125.2 (pv r125.2 (binA Try.prog .eql 24 r124.1 r125.1)) r123.1).bind fun r126 =>
  (pv r126.2 (pickA r123.1 r126.1 (.v (Go.Value.bool false)))).bind fun r127 =>
  (gsel true r127.2 (some (r32.1, r127.2)) r127.1).bind fun r128 =>
  (gsel true r128.2 (some (r36.1, r128.2)) r127.1).bind fun r129 =>
  (gsel true r129.2 (pv r129.2 (binA Try.prog .eql 3 r128.1 r129.1)) r127.1).bind fun r130 =>
  (pv r130.2 (pickA r127.1 r130.1 (.v (Go.Value.bool false)))).bind fun r131 =>
  (gsel true r131.2 (some (r33.1, r131.2)) r131.1).bind fun r132 =>
  (gsel true r132.2 (some (r37.1, r132.2)) r131.1).bind fun r133 =>
  (gsel true r133.2 (pv r133.2 (binA Try.prog .eql 24 r132.1 r133.1)) r131.1).bind fun r134 =>
  (pv r134.2 (pickA r131.1 r134.1 (.v (Go.Value.bool false)))).bind fun r135 =>
  (gsel true r135.2 (some (r41.1, r135.2)) r135.1).bind fun r136 =>
  (gsel true r136.2 (some (r47.1, r136.2)) r135.1).bind fun r137 =>
  (gsel true r137.2 (pv r137.2 (binA Try.prog .eql 24 r136.1 r137.1)) r135.1).bind fun r138 =>
  (pv r138.2 (pickA r135.1 r138.1 (.v (Go.Value.bool false)))).bind fun r139 =>
  (gsel true r139.2 (some (r90.1, r139.2)) r139.1).bind fun r140 =>
  (pv r140.2 (pickA r139.1 r140.1 (.v (Go.Value.bool false)))).bind fun r141 =>
  (gsel true r141.2 (callA E md0 r141.2 13 []) r141.1).bind fun r142 =>
  (pv r142.2 (pickA r141.1 r142.1 (.v (Go.Value.bool false)))).bind fun r143 =>
  some (.ret, ⟨[(6, r143.1), (27, r90.1), (26, r47.1), (25, r48.1), (24, r41.1), (23, r42.1), (22, r37.1), (21, r36.1), (20, r33.1), (19, r32.1), (18, r27.1), (17, r28.1), (16, r21.1), (15, r22.1), (14, r17.1), (13, r16.1), (12, r13.1), (11, r12.1), (10, r9.1), (9, r8.1), (8, r5.1), (7, r4.1), (6, (.v (Go.Value.bool false))), (3, r1.1), (0, a0), (1, a1), (2, a2)], r143.2⟩)
theorem c_l06_GeomTells_eq : Try.f5.body = some c_l06_GeomTells := by kernel_rfl
theorem d_l06_GeomTells : drawsOk Try.prog md0 c_l06_GeomTells = true := by kernel_rfl
theorem F_l06_GeomTells_eq (E : FnA) (n n0 : Nat) (a0 a1 a2 : AV) (bx : Bx) : evK Try.prog md0 E 202 kp_l06_GeomTells n n0 c_l06_GeomTells ⟨[(0, a0), (1, a1), (2, a2)], bx⟩ (fun s => some (.normal, s)) (fun i s => some (.exit i, s)) = F_l06_GeomTells E n n0 a0 a1 a2 bx := by kernel_rfl

theorem E_l06_GeomTells (n : Nat) (a0 a1 a2 : AV) (bx : Bx) : evFn cx0 ext0 (n + 1) 5 [a0, a1, a2] bx = fin Try.prog [.tmp 6] (F_l06_GeomTells (evFn cx0 ext0 n) n bx.length a0 a1 a2 bx) := by
  rw [evFn_eq2 (cx := cx0) (c := c_l06_GeomTells) rfl Try.func5 c_l06_GeomTells_eq (of_decide_eq_true (by kernel_rfl)) d_l06_GeomTells (of_decide_eq_true (by kernel_rfl))]
  exact congrArg (fin Try.prog [.tmp 6]) (F_l06_GeomTells_eq (evFn cx0 ext0 n) n bx.length a0 a1 a2 bx)

/-- scupper/scupperlaw06.GeomOnce -/
def kp_l06_GeomOnce : Option (List Nat) := some [0, 1, 2, 6, 7, 8, 9, 10, 12, 14, 16, 18, 19, 21, 23, 24, 25, 26, 28, 30, 46, 54, 90, 106, 126, 136, 171, 174, 185, 192]
noncomputable def c_l06_GeomOnce : Code := Try.f6.body.getD .skip
noncomputable def L_l06_GeomOnce_1 (E : FnA) (_n _n0 : Nat) (s : S) : Option (Ex × S) :=
  (pv s.bx (fieldAddrA Try.prog 23 (get s.env 7) 2)).bind fun r84 =>
  (pv r84.2 (loadA Try.prog 3 r84.2 r84.1)).bind fun r85 =>
  (pv r85.2 (binA Try.prog .lss 3 (get s.env 18) r85.1)).bind fun r86 =>
  condA r86.1 ((pv r86.2 (loadA Try.prog 23 r86.2 (get (prune kp_l06_GeomOnce s.env) 7))).bind fun r87 =>
  (callA E md0 r87.2 20 [r87.1, (get (prune kp_l06_GeomOnce s.env) 9), (get (prune kp_l06_GeomOnce s.env) 18)]).bind fun r88 =>
  (pv r88.2 (tupA r88.1 0)).bind fun r89 =>
  (pv r89.2 (tupA r88.1 1)).bind fun r90 =>
  (pv r90.2 (loadA Try.prog 23 r90.2 (get (prune kp_l06_GeomOnce (prune kp_l06_GeomOnce s.env)) 7))).bind fun r91 =>
  (callA E md0 r91.2 22 [r91.1, r89.1]).bind fun r92 =>
  (pv r92.2 (tupA r92.1 0)).bind fun r93 =>
  (pv r93.2 (tupA r92.1 1)).bind fun r94 =>
  (allocA Try.prog r94.2 41).bind fun r95 =>
  (stA Try.prog 41 r95.2 r95.1 r93.1).bind fun r96 =>
  (pv r96.2 (loadA Try.prog 41 r96.2 r95.1)).bind fun r97 =>
  (pv r97.2 (buildA Try.prog 41 [(0, (.v (Go.Value.int Go.IntKind.i64 0))), (1, (get (prune kp_l06_GeomOnce (prune kp_l06_GeomOnce (prune kp_l06_GeomOnce s.env))) 9)), (2, (get (prune kp_l06_GeomOnce (prune kp_l06_GeomOnce (prune kp_l06_GeomOnce s.env))) 18))])).bind fun r98 =>
  (pv r98.2 (binA Try.prog .neq 41 r97.1 r98.1)).bind fun r99 =>
  condA r99.1 (some (.ret, ⟨((6, (.v (Go.Value.bool false))) :: (126, r99.1) :: (21, r95.1) :: (19, r89.1) :: (106, r86.1) :: (prune kp_l06_GeomOnce (prune kp_l06_GeomOnce (prune kp_l06_GeomOnce (prune kp_l06_GeomOnce (prune kp_l06_GeomOnce s.env)))))), r99.2⟩)) ((pv r99.2 (indexAddrA Try.prog 48 (get (prune kp_l06_GeomOnce (prune kp_l06_GeomOnce (prune kp_l06_GeomOnce (prune kp_l06_GeomOnce s.env)))) 8) r89.1)).bind fun r100 =>
  (pv r100.2 (loadA Try.prog 3 r100.2 r100.1)).bind fun r101 =>
  (pv r101.2 (binA Try.prog .add 3 r101.1 (.v (Go.Value.int Go.IntKind.i64 1)))).bind fun r102 =>
  (pv r102.2 (indexAddrA Try.prog 48 (get (prune kp_l06_GeomOnce (prune kp_l06_GeomOnce (prune kp_l06_GeomOnce (prune kp_l06_GeomOnce s.env)))) 8) r89.1)).bind fun r103 =>
  (stA Try.prog 3 r103.2 r103.1 r102.1).bind fun r104 =>
  (pv r104.2 (binA Try.prog .add 3 (get (prune kp_l06_GeomOnce (prune kp_l06_GeomOnce (prune kp_l06_GeomOnce (prune kp_l06_GeomOnce (prune kp_l06_GeomOnce s.env))))) 18) (.v (Go.Value.int Go.IntKind.i64 1)))).bind fun r105 =>
  some (.normal, ⟨((18, r105.1) :: (126, r99.1) :: (21, r95.1) :: (19, r89.1) :: (106, r86.1) :: (prune kp_l06_GeomOnce (prune kp_l06_GeomOnce (prune kp_l06_GeomOnce (prune kp_l06_GeomOnce (prune kp_l06_GeomOnce (prune kp_l06_GeomOnce s.env))))))), r105.2⟩))) (some (.exit 2, ⟨((106, r86.1) :: (prune kp_l06_GeomOnce s.env)), r86.2⟩))
noncomputable def B_l06_GeomOnce_1 (E : FnA) (_n _n0 : Nat) (x18 x90 x16 x14 x12 x10 x54 x9 x46 x8 x7 x30 x6 x0 x1 x2 : AV) (y : Bx) : Option (Ex × S) :=
  (pv y (fieldAddrA Try.prog 23 x7 2)).bind fun r62 =>
  (pv r62.2 (loadA Try.prog 3 r62.2 r62.1)).bind fun r63 =>
  (pv r63.2 (binA Try.prog .lss 3 x18 r63.1)).bind fun r64 =>
  condA r64.1 ((pv r64.2 (loadA Try.prog 23 r64.2 x7)).bind fun r65 =>
  (callA E md0 r65.2 20 [r65.1, x9, x18]).bind fun r66 =>
  (pv r66.2 (tupA r66.1 0)).bind fun r67 =>
  (pv r67.2 (tupA r66.1 1)).bind fun r68 =>
  (pv r68.2 (loadA Try.prog 23 r68.2 x7)).bind fun r69 =>
  (callA E md0 r69.2 22 [r69.1, r67.1]).bind fun r70 =>
  (pv r70.2 (tupA r70.1 0)).bind fun r71 =>
  (pv r71.2 (tupA r70.1 1)).bind fun r72 =>
  (allocA Try.prog r72.2 41).bind fun r73 =>
  (stA Try.prog 41 r73.2 r73.1 r71.1).bind fun r74 =>
  (pv r74.2 (loadA Try.prog 41 r74.2 r73.1)).bind fun r75 =>
  (pv r75.2 (buildA Try.prog 41 [(0, (.v (Go.Value.int Go.IntKind.i64 0))), (1, x9), (2, x18)])).bind fun r76 =>
  (pv r76.2 (binA Try.prog .neq 41 r75.1 r76.1)).bind fun r77 =>
  condA r77.1 (some (.ret, ⟨[(6, (.v (Go.Value.bool false))), (126, r77.1), (21, r73.1), (19, r67.1), (106, r64.1), (18, x18), (90, x90), (16, x16), (14, x14), (12, x12), (10, x10), (54, x54), (9, x9), (46, x46), (8, x8), (7, x7), (30, x30), (6, x6), (0, x0), (1, x1), (2, x2)], r77.2⟩)) ((pv r77.2 (indexAddrA Try.prog 48 x8 r67.1)).bind fun r78 =>
  (pv r78.2 (loadA Try.prog 3 r78.2 r78.1)).bind fun r79 =>
  (pv r79.2 (binA Try.prog .add 3 r79.1 (.v (Go.Value.int Go.IntKind.i64 1)))).bind fun r80 =>
  (pv r80.2 (indexAddrA Try.prog 48 x8 r67.1)).bind fun r81 =>
  (stA Try.prog 3 r81.2 r81.1 r80.1).bind fun r82 =>
  (pv r82.2 (binA Try.prog .add 3 x18 (.v (Go.Value.int Go.IntKind.i64 1)))).bind fun r83 =>
  some (.normal, ⟨[(18, r83.1), (126, r77.1), (21, r73.1), (19, r67.1), (106, r64.1), (18, x18), (90, x90), (16, x16), (14, x14), (12, x12), (10, x10), (54, x54), (9, x9), (46, x46), (8, x8), (7, x7), (30, x30), (6, x6), (0, x0), (1, x1), (2, x2)], r83.2⟩))) (some (.exit 2, ⟨[(106, r64.1), (18, x18), (90, x90), (16, x16), (14, x14), (12, x12), (10, x10), (54, x54), (9, x9), (46, x46), (8, x8), (7, x7), (30, x30), (6, x6), (0, x0), (1, x1), (2, x2)], r64.2⟩))
theorem L_l06_GeomOnce_1_lit {E : FnA} {n n0 : Nat} {x18 x90 x16 x14 x12 x10 x54 x9 x46 x8 x7 x30 x6 x0 x1 x2 : AV} {y : Bx} {Q : Ex → S → Prop} (h : Ends (B_l06_GeomOnce_1 E n n0 x18 x90 x16 x14 x12 x10 x54 x9 x46 x8 x7 x30 x6 x0 x1 x2 y) Q) : Ends (L_l06_GeomOnce_1 E n n0 ⟨[(18, x18), (90, x90), (16, x16), (14, x14), (12, x12), (10, x10), (54, x54), (9, x9), (46, x46), (8, x8), (7, x7), (30, x30), (6, x6), (0, x0), (1, x1), (2, x2)], y⟩) Q := by
  rw [show L_l06_GeomOnce_1 E n n0 ⟨[(18, x18), (90, x90), (16, x16), (14, x14), (12, x12), (10, x10), (54, x54), (9, x9), (46, x46), (8, x8), (7, x7), (30, x30), (6, x6), (0, x0), (1, x1), (2, x2)], y⟩ = B_l06_GeomOnce_1 E n n0 x18 x90 x16 x14 x12 x10 x54 x9 x46 x8 x7 x30 x6 x0 x1 x2 y by kernel_rfl]
  exact h
noncomputable def K_l06_GeomOnce_1 (_E : FnA) (_n _n0 : Nat) (t : S) : Option (Ex × S) :=
  (pv t.bx (binA Try.prog .add 3 (get t.env 9) (.v (Go.Value.int Go.IntKind.i64 1)))).bind fun r108 =>
  some (.normal, ⟨((9, r108.1) :: (prune kp_l06_GeomOnce t.env)), r108.2⟩)
noncomputable def X_l06_GeomOnce_1 (_E : FnA) (_n _n0 : Nat) (i : Nat) (t : S) : Option (Ex × S) :=
  if i = 2 then (pv t.bx (binA Try.prog .add 3 (get t.env 9) (.v (Go.Value.int Go.IntKind.i64 1)))).bind fun r106 =>
  some (.normal, ⟨((9, r106.1) :: (prune kp_l06_GeomOnce t.env)), r106.2⟩) else if i = 1 then (pv t.bx (binA Try.prog .add 3 (get t.env 9) (.v (Go.Value.int Go.IntKind.i64 1)))).bind fun r107 =>
  some (.normal, ⟨((9, r107.1) :: (prune kp_l06_GeomOnce t.env)), r107.2⟩) else some (.exit i, ⟨t.env, t.bx⟩)
noncomputable def X_l06_GeomOnce_1_0 (_E : FnA) (_n _n0 : Nat) (x106 x18 x90 x16 x14 x12 x10 x54 x9 x46 x8 x7 x30 x6 x0 x1 x2 : AV) (y : Bx) : Option (Ex × S) :=
  (pv y (binA Try.prog .add 3 x9 (.v (Go.Value.int Go.IntKind.i64 1)))).bind fun r109 =>
  some (.normal, ⟨[(9, r109.1), (106, x106), (18, x18), (90, x90), (16, x16), (14, x14), (12, x12), (10, x10), (54, x54), (9, x9), (46, x46), (8, x8), (7, x7), (30, x30), (6, x6), (0, x0), (1, x1), (2, x2)], r109.2⟩)
theorem X_l06_GeomOnce_1_0_lit {E : FnA} {n n0 : Nat} {x106 x18 x90 x16 x14 x12 x10 x54 x9 x46 x8 x7 x30 x6 x0 x1 x2 : AV} {y : Bx} {Q : Ex → S → Prop} (h : Ends (X_l06_GeomOnce_1_0 E n n0 x106 x18 x90 x16 x14 x12 x10 x54 x9 x46 x8 x7 x30 x6 x0 x1 x2 y) Q) : Ends (X_l06_GeomOnce_1 E n n0 2 ⟨[(106, x106), (18, x18), (90, x90), (16, x16), (14, x14), (12, x12), (10, x10), (54, x54), (9, x9), (46, x46), (8, x8), (7, x7), (30, x30), (6, x6), (0, x0), (1, x1), (2, x2)], y⟩) Q := by
  rw [show X_l06_GeomOnce_1 E n n0 2 ⟨[(106, x106), (18, x18), (90, x90), (16, x16), (14, x14), (12, x12), (10, x10), (54, x54), (9, x9), (46, x46), (8, x8), (7, x7), (30, x30), (6, x6), (0, x0), (1, x1), (2, x2)], y⟩ = X_l06_GeomOnce_1_0 E n n0 x106 x18 x90 x16 x14 x12 x10 x54 x9 x46 x8 x7 x30 x6 x0 x1 x2 y by kernel_rfl]
  exact h
noncomputable def L_l06_GeomOnce_3 (_E : FnA) (_n _n0 : Nat) (s : S) : Option (Ex × S) :=
  (pv s.bx (lenA Try.prog 48 (get s.env 8))).bind fun r249 =>
  (pv r249.2 (binA Try.prog .lss 3 (get s.env 28) r249.1)).bind fun r250 =>
  condA r250.1 ((pv r250.2 (indexAddrA Try.prog 48 (get (prune kp_l06_GeomOnce s.env) 8) (get (prune kp_l06_GeomOnce s.env) 28))).bind fun r251 =>
  (pv r251.2 (loadA Try.prog 3 r251.2 r251.1)).bind fun r252 =>
  (pv r252.2 (binA Try.prog .neq 3 r252.1 (.v (Go.Value.int Go.IntKind.i64 1)))).bind fun r253 =>
  condA r253.1 (some (.ret, ⟨((6, (.v (Go.Value.bool false))) :: (192, r253.1) :: (185, r250.1) :: (prune kp_l06_GeomOnce (prune kp_l06_GeomOnce (prune kp_l06_GeomOnce s.env)))), r253.2⟩)) ((pv r253.2 (binA Try.prog .add 3 (get (prune kp_l06_GeomOnce (prune kp_l06_GeomOnce s.env)) 28) (.v (Go.Value.int Go.IntKind.i64 1)))).bind fun r254 =>
  some (.normal, ⟨((28, r254.1) :: (192, r253.1) :: (185, r250.1) :: (prune kp_l06_GeomOnce (prune kp_l06_GeomOnce (prune kp_l06_GeomOnce s.env)))), r254.2⟩))) (some (.exit 6, ⟨((185, r250.1) :: (prune kp_l06_GeomOnce s.env)), r250.2⟩))
noncomputable def B_l06_GeomOnce_3 (_E : FnA) (_n _n0 : Nat) (x28 x136 x23 x54 x9 x46 x8 x7 x30 x6 x0 x1 x2 : AV) (y : Bx) : Option (Ex × S) :=
  (pv y (lenA Try.prog 48 x8)).bind fun r243 =>
  (pv r243.2 (binA Try.prog .lss 3 x28 r243.1)).bind fun r244 =>
  condA r244.1 ((pv r244.2 (indexAddrA Try.prog 48 x8 x28)).bind fun r245 =>
  (pv r245.2 (loadA Try.prog 3 r245.2 r245.1)).bind fun r246 =>
  (pv r246.2 (binA Try.prog .neq 3 r246.1 (.v (Go.Value.int Go.IntKind.i64 1)))).bind fun r247 =>
  condA r247.1 (some (.ret, ⟨[(6, (.v (Go.Value.bool false))), (192, r247.1), (185, r244.1), (28, x28), (136, x136), (23, x23), (54, x54), (9, x9), (46, x46), (8, x8), (7, x7), (30, x30), (6, x6), (0, x0), (1, x1), (2, x2)], r247.2⟩)) ((pv r247.2 (binA Try.prog .add 3 x28 (.v (Go.Value.int Go.IntKind.i64 1)))).bind fun r248 =>
  some (.normal, ⟨[(28, r248.1), (192, r247.1), (185, r244.1), (28, x28), (136, x136), (23, x23), (54, x54), (9, x9), (46, x46), (8, x8), (7, x7), (30, x30), (6, x6), (0, x0), (1, x1), (2, x2)], r248.2⟩))) (some (.exit 6, ⟨[(185, r244.1), (28, x28), (136, x136), (23, x23), (54, x54), (9, x9), (46, x46), (8, x8), (7, x7), (30, x30), (6, x6), (0, x0), (1, x1), (2, x2)], r244.2⟩))
theorem L_l06_GeomOnce_3_lit {E : FnA} {n n0 : Nat} {x28 x136 x23 x54 x9 x46 x8 x7 x30 x6 x0 x1 x2 : AV} {y : Bx} {Q : Ex → S → Prop} (h : Ends (B_l06_GeomOnce_3 E n n0 x28 x136 x23 x54 x9 x46 x8 x7 x30 x6 x0 x1 x2 y) Q) : Ends (L_l06_GeomOnce_3 E n n0 ⟨[(28, x28), (136, x136), (23, x23), (54, x54), (9, x9), (46, x46), (8, x8), (7, x7), (30, x30), (6, x6), (0, x0), (1, x1), (2, x2)], y⟩) Q := by
  rw [show L_l06_GeomOnce_3 E n n0 ⟨[(28, x28), (136, x136), (23, x23), (54, x54), (9, x9), (46, x46), (8, x8), (7, x7), (30, x30), (6, x6), (0, x0), (1, x1), (2, x2)], y⟩ = B_l06_GeomOnce_3 E n n0 x28 x136 x23 x54 x9 x46 x8 x7 x30 x6 x0 x1 x2 y by kernel_rfl]
  exact h
noncomputable def K_l06_GeomOnce_3 (_E : FnA) (_n _n0 : Nat) (t : S) : Option (Ex × S) :=
  some (.ret, ⟨((6, (.v (Go.Value.bool true))) :: (prune kp_l06_GeomOnce t.env)), t.bx⟩)
noncomputable def X_l06_GeomOnce_3 (_E : FnA) (_n _n0 : Nat) (i : Nat) (t : S) : Option (Ex × S) :=
  if i = 6 then some (.ret, ⟨((6, (.v (Go.Value.bool true))) :: (prune kp_l06_GeomOnce t.env)), t.bx⟩) else some (.exit i, ⟨t.env, t.bx⟩)
noncomputable def X_l06_GeomOnce_3_0 (_E : FnA) (_n _n0 : Nat) (x185 x28 x136 x23 x54 x9 x46 x8 x7 x30 x6 x0 x1 x2 : AV) (y : Bx) : Option (Ex × S) :=
  some (.ret, ⟨[(6, (.v (Go.Value.bool true))), (185, x185), (28, x28), (136, x136), (23, x23), (54, x54), (9, x9), (46, x46), (8, x8), (7, x7), (30, x30), (6, x6), (0, x0), (1, x1), (2, x2)], y⟩)
theorem X_l06_GeomOnce_3_0_lit {E : FnA} {n n0 : Nat} {x185 x28 x136 x23 x54 x9 x46 x8 x7 x30 x6 x0 x1 x2 : AV} {y : Bx} {Q : Ex → S → Prop} (h : Ends (X_l06_GeomOnce_3_0 E n n0 x185 x28 x136 x23 x54 x9 x46 x8 x7 x30 x6 x0 x1 x2 y) Q) : Ends (X_l06_GeomOnce_3 E n n0 6 ⟨[(185, x185), (28, x28), (136, x136), (23, x23), (54, x54), (9, x9), (46, x46), (8, x8), (7, x7), (30, x30), (6, x6), (0, x0), (1, x1), (2, x2)], y⟩) Q := by
  rw [show X_l06_GeomOnce_3 E n n0 6 ⟨[(185, x185), (28, x28), (136, x136), (23, x23), (54, x54), (9, x9), (46, x46), (8, x8), (7, x7), (30, x30), (6, x6), (0, x0), (1, x1), (2, x2)], y⟩ = X_l06_GeomOnce_3_0 E n n0 x185 x28 x136 x23 x54 x9 x46 x8 x7 x30 x6 x0 x1 x2 y by kernel_rfl]
  exact h
noncomputable def L_l06_GeomOnce_2 (E : FnA) (_n _n0 : Nat) (s : S) : Option (Ex × S) :=
  (pv s.bx (loadA Try.prog 23 s.bx (get s.env 7))).bind fun r197 =>
  (callA E md0 r197.2 11 [r197.1]).bind fun r198 =>
  (pv r198.2 (binA Try.prog .leq 3 (get s.env 23) r198.1)).bind fun r199 =>
  condA r199.1 ((pv r199.2 (loadA Try.prog 23 r199.2 (get (prune kp_l06_GeomOnce s.env) 7))).bind fun r200 =>
  (callA E md0 r200.2 14 [r200.1, (get (prune kp_l06_GeomOnce s.env) 23)]).bind fun r201 =>
  (pv r201.2 (tupA r201.1 0)).bind fun r202 =>
  (pv r202.2 (tupA r201.1 1)).bind fun r203 =>
  (allocA Try.prog r203.2 30).bind fun r204 =>
  (stA Try.prog 30 r204.2 r204.1 r202.1).bind fun r205 =>
  (pv r205.2 (loadA Try.prog 23 r205.2 (get (prune kp_l06_GeomOnce (prune kp_l06_GeomOnce s.env)) 7))).bind fun r206 =>
  (pv r206.2 (fieldAddrA Try.prog 30 r204.1 0)).bind fun r207 =>
  (pv r207.2 (loadA Try.prog 3 r207.2 r207.1)).bind fun r208 =>
  (callA E md0 r208.2 22 [r206.1, r208.1]).bind fun r209 =>
  (pv r209.2 (tupA r209.1 0)).bind fun r210 =>
  (pv r210.2 (tupA r209.1 1)).bind fun r211 =>
  (allocA Try.prog r211.2 41).bind fun r212 =>
  (stA Try.prog 41 r212.2 r212.1 r210.1).bind fun r213 =>
  (pv r213.2 (binA Try.prog .neq 24 r203.1 (.v (Go.Value.int Go.IntKind.i64 0)))).bind fun r214 =>
  (gsel false r214.2 (pv r214.2 (loadA Try.prog 41 r214.2 r212.1)) r214.1).bind fun r215 =>
  (gsel false r215.2 (pv r215.2 (fieldAddrA Try.prog 30 r204.1 2)) r214.1).bind fun r216 =>
  (gsel false r216.2 (pv r216.2 (loadA Try.prog 3 r216.2 r216.1)) r214.1).bind fun r217 =>
  (gsel false r217.2 (pv r217.2 (fieldAddrA Try.prog 30 r204.1 3)) r214.1).bind fun r218 =>
  (gsel false r218.2 (pv r218.2 (loadA Try.prog 3 r218.2 r218.1)) r214.1).bind fun r219 =>
  (gsel false r219.2 (pv r219.2 (binA Try.prog .quo 3 r219.1 (.v (Go.Value.int Go.IntKind.i64 3)))) r214.1).bind fun r220 =>
  (gsel false r220.2 (pv r220.2 (buildA Try.prog 41 [(0, (.v (Go.Value.int Go.IntKind.i64 4))), (1, r217.1), (2, r220.1)])) r214.1).bind fun r221 =>
  (gsel false r221.2 (pv r221.2 (binA Try.prog .neq 41 r215.1 r221.1)) r214.1).bind fun r222 =>
  (pv r222.2 (pickA r214.1 (.v (Go.Value.bool true)) r222.1)).bind fun r223 =>
  (gsel false r223.2 (pv r223.2 (fieldAddrA Try.prog 30 r204.1 1)) r223.1).bind fun r224 =>
  (gsel false r224.2 (pv r224.2 (loadA Try.prog 3 r224.2 r224.1)) r223.1).bind fun r225 =>
  (gsel false r225.2 (pv r225.2 (fieldAddrA Try.prog 30 r204.1 3)) r223.1).bind fun r226 =>
  (gsel false r226.2 (pv r226.2 (loadA Try.prog 3 r226.2 r226.1)) r223.1).bind fun r227 =>
  (gsel false r227.2 (pv r227.2 (binA Try.prog .rem 3 r227.1 (.v (Go.Value.int Go.IntKind.i64 3)))) r223.1).bind fun r228 =>
  (gsel false r228.2 (pv r228.2 (binA Try.prog .neq 3 r225.1 r228.1)) r223.1).bind fun r229 =>
  (pv r229.2 (pickA r223.1 (.v (Go.Value.bool true)) r229.1)).bind fun r230 =>
  condA r230.1 (some (.ret, ⟨((6, (.v (Go.Value.bool false))) :: (171, r230.1) :: (26, r212.1) :: (25, r203.1) :: (24, r204.1) :: (136, r199.1) :: (prune kp_l06_GeomOnce (prune kp_l06_GeomOnce (prune kp_l06_GeomOnce (prune kp_l06_GeomOnce (prune kp_l06_GeomOnce s.env)))))), r230.2⟩)) ((pv r230.2 (fieldAddrA Try.prog 30 r204.1 1)).bind fun r231 =>
  (pv r231.2 (loadA Try.prog 3 r231.2 r231.1)).bind fun r232 =>
  (pv r232.2 (binA Try.prog .eql 3 r232.1 (.v (Go.Value.int Go.IntKind.i64 0)))).bind fun r233 =>
  condA r233.1 ((pv r233.2 (fieldAddrA Try.prog 30 r204.1 0)).bind fun r234 =>
  (pv r234.2 (loadA Try.prog 3 r234.2 r234.1)).bind fun r235 =>
  (pv r235.2 (indexAddrA Try.prog 48 (get (prune kp_l06_GeomOnce (prune kp_l06_GeomOnce (prune kp_l06_GeomOnce (prune kp_l06_GeomOnce (prune kp_l06_GeomOnce s.env))))) 8) r235.1)).bind fun r236 =>
  (pv r236.2 (loadA Try.prog 3 r236.2 r236.1)).bind fun r237 =>
  (pv r237.2 (binA Try.prog .add 3 r237.1 (.v (Go.Value.int Go.IntKind.i64 1)))).bind fun r238 =>
  (pv r238.2 (indexAddrA Try.prog 48 (get (prune kp_l06_GeomOnce (prune kp_l06_GeomOnce (prune kp_l06_GeomOnce (prune kp_l06_GeomOnce (prune kp_l06_GeomOnce s.env))))) 8) r235.1)).bind fun r239 =>
  (stA Try.prog 3 r239.2 r239.1 r238.1).bind fun r240 =>
  (pv r240.2 (binA Try.prog .add 3 (get (prune kp_l06_GeomOnce (prune kp_l06_GeomOnce (prune kp_l06_GeomOnce (prune kp_l06_GeomOnce (prune kp_l06_GeomOnce (prune kp_l06_GeomOnce s.env)))))) 23) (.v (Go.Value.int Go.IntKind.i64 1)))).bind fun r241 =>
  some (.normal, ⟨((23, r241.1) :: (174, r233.1) :: (171, r230.1) :: (26, r212.1) :: (25, r203.1) :: (24, r204.1) :: (136, r199.1) :: (prune kp_l06_GeomOnce (prune kp_l06_GeomOnce (prune kp_l06_GeomOnce (prune kp_l06_GeomOnce (prune kp_l06_GeomOnce (prune kp_l06_GeomOnce (prune kp_l06_GeomOnce s.env)))))))), r241.2⟩)) ((pv r233.2 (binA Try.prog .add 3 (get (prune kp_l06_GeomOnce (prune kp_l06_GeomOnce (prune kp_l06_GeomOnce (prune kp_l06_GeomOnce (prune kp_l06_GeomOnce s.env))))) 23) (.v (Go.Value.int Go.IntKind.i64 1)))).bind fun r242 =>
  some (.normal, ⟨((23, r242.1) :: (174, r233.1) :: (171, r230.1) :: (26, r212.1) :: (25, r203.1) :: (24, r204.1) :: (136, r199.1) :: (prune kp_l06_GeomOnce (prune kp_l06_GeomOnce (prune kp_l06_GeomOnce (prune kp_l06_GeomOnce (prune kp_l06_GeomOnce (prune kp_l06_GeomOnce s.env))))))), r242.2⟩)))) (some (.exit 4, ⟨((136, r199.1) :: (prune kp_l06_GeomOnce s.env)), r199.2⟩))
noncomputable def B_l06_GeomOnce_2 (E : FnA) (_n _n0 : Nat) (x23 x54 x9 x46 x8 x7 x30 x6 x0 x1 x2 : AV) (y : Bx) : Option (Ex × S) :=
  (pv y (loadA Try.prog 23 y x7)).bind fun r151 =>
  (callA E md0 r151.2 11 [r151.1]).bind fun r152 =>
  (pv r152.2 (binA Try.prog .leq 3 x23 r152.1)).bind fun r153 =>
  condA r153.1 ((pv r153.2 (loadA Try.prog 23 r153.2 x7)).bind fun r154 =>
  (callA E md0 r154.2 14 [r154.1, x23]).bind fun r155 =>
  (pv r155.2 (tupA r155.1 0)).bind fun r156 =>
  (pv r156.2 (tupA r155.1 1)).bind fun r157 =>
  (allocA Try.prog r157.2 30).bind fun r158 =>
  (stA Try.prog 30 r158.2 r158.1 r156.1).bind fun r159 =>
  (pv r159.2 (loadA Try.prog 23 r159.2 x7)).bind fun r160 =>
  (pv r160.2 (fieldAddrA Try.prog 30 r158.1 0)).bind fun r161 =>
  (pv r161.2 (loadA Try.prog 3 r161.2 r161.1)).bind fun r162 =>
  (callA E md0 r162.2 22 [r160.1, r162.1]).bind fun r163 =>
  (pv r163.2 (tupA r163.1 0)).bind fun r164 =>
  (pv r164.2 (tupA r163.1 1)).bind fun r165 =>
  (allocA Try.prog r165.2 41).bind fun r166 =>
  (stA Try.prog 41 r166.2 r166.1 r164.1).bind fun r167 =>
  (pv r167.2 (binA Try.prog .neq 24 r157.1 (.v (Go.Value.int Go.IntKind.i64 0)))).bind fun r168 =>
  (gsel false r168.2 (pv r168.2 (loadA Try.prog 41 r168.2 r166.1)) r168.1).bind fun r169 =>
  (gsel false r169.2 (pv r169.2 (fieldAddrA Try.prog 30 r158.1 2)) r168.1).bind fun r170 =>
  (gsel false r170.2 (pv r170.2 (loadA Try.prog 3 r170.2 r170.1)) r168.1).bind fun r171 =>
  (gsel false r171.2 (pv r171.2 (fieldAddrA Try.prog 30 r158.1 3)) r168.1).bind fun r172 =>
  (gsel false r172.2 (pv r172.2 (loadA Try.prog 3 r172.2 r172.1)) r168.1).bind fun r173 =>
  (gsel false r173.2 (pv r173.2 (binA Try.prog .quo 3 r173.1 (.v (Go.Value.int Go.IntKind.i64 3)))) r168.1).bind fun r174 =>
  (gsel false r174.2 (pv r174.2 (buildA Try.prog 41 [(0, (.v (Go.Value.int Go.IntKind.i64 4))), (1, r171.1), (2, r174.1)])) r168.1).bind fun r175 =>
  (gsel false r175.2 (pv r175.2 (binA Try.prog .neq 41 r169.1 r175.1)) r168.1).bind fun r176 =>
  (pv r176.2 (pickA r168.1 (.v (Go.Value.bool true)) r176.1)).bind fun r177 =>
  (gsel false r177.2 (pv r177.2 (fieldAddrA Try.prog 30 r158.1 1)) r177.1).bind fun r178 =>
  (gsel false r178.2 (pv r178.2 (loadA Try.prog 3 r178.2 r178.1)) r177.1).bind fun r179 =>
  (gsel false r179.2 (pv r179.2 (fieldAddrA Try.prog 30 r158.1 3)) r177.1).bind fun r180 =>
  (gsel false r180.2 (pv r180.2 (loadA Try.prog 3 r180.2 r180.1)) r177.1).bind fun r181 =>
  (gsel false r181.2 (pv r181.2 (binA Try.prog .rem 3 r181.1 (.v (Go.Value.int Go.IntKind.i64 3)))) r177.1).bind fun r182 =>
  (gsel false r182.2 (pv r182.2 (binA Try.prog .neq 3 r179.1 r182.1)) r177.1).bind fun r183 =>
  (pv r183.2 (pickA r177.1 (.v (Go.Value.bool true)) r183.1)).bind fun r184 =>
  condA r184.1 (some (.ret, ⟨[(6, (.v (Go.Value.bool false))), (171, r184.1), (26, r166.1), (25, r157.1), (24, r158.1), (136, r153.1), (23, x23), (54, x54), (9, x9), (46, x46), (8, x8), (7, x7), (30, x30), (6, x6), (0, x0), (1, x1), (2, x2)], r184.2⟩)) ((pv r184.2 (fieldAddrA Try.prog 30 r158.1 1)).bind fun r185 =>
  (pv r185.2 (loadA Try.prog 3 r185.2 r185.1)).bind fun r186 =>
  (pv r186.2 (binA Try.prog .eql 3 r186.1 (.v (Go.Value.int Go.IntKind.i64 0)))).bind fun r187 =>
  condA r187.1 ((pv r187.2 (fieldAddrA Try.prog 30 r158.1 0)).bind fun r188 =>
  (pv r188.2 (loadA Try.prog 3 r188.2 r188.1)).bind fun r189 =>
  (pv r189.2 (indexAddrA Try.prog 48 x8 r189.1)).bind fun r190 =>
  (pv r190.2 (loadA Try.prog 3 r190.2 r190.1)).bind fun r191 =>
  (pv r191.2 (binA Try.prog .add 3 r191.1 (.v (Go.Value.int Go.IntKind.i64 1)))).bind fun r192 =>
  (pv r192.2 (indexAddrA Try.prog 48 x8 r189.1)).bind fun r193 =>
  (stA Try.prog 3 r193.2 r193.1 r192.1).bind fun r194 =>
  (pv r194.2 (binA Try.prog .add 3 x23 (.v (Go.Value.int Go.IntKind.i64 1)))).bind fun r195 =>
  some (.normal, ⟨[(23, r195.1), (174, r187.1), (171, r184.1), (26, r166.1), (25, r157.1), (24, r158.1), (136, r153.1), (23, x23), (54, x54), (9, x9), (46, x46), (8, x8), (7, x7), (30, x30), (6, x6), (0, x0), (1, x1), (2, x2)], r195.2⟩)) ((pv r187.2 (binA Try.prog .add 3 x23 (.v (Go.Value.int Go.IntKind.i64 1)))).bind fun r196 =>
  some (.normal, ⟨[(23, r196.1), (174, r187.1), (171, r184.1), (26, r166.1), (25, r157.1), (24, r158.1), (136, r153.1), (23, x23), (54, x54), (9, x9), (46, x46), (8, x8), (7, x7), (30, x30), (6, x6), (0, x0), (1, x1), (2, x2)], r196.2⟩)))) (some (.exit 4, ⟨[(136, r153.1), (23, x23), (54, x54), (9, x9), (46, x46), (8, x8), (7, x7), (30, x30), (6, x6), (0, x0), (1, x1), (2, x2)], r153.2⟩))
theorem L_l06_GeomOnce_2_lit {E : FnA} {n n0 : Nat} {x23 x54 x9 x46 x8 x7 x30 x6 x0 x1 x2 : AV} {y : Bx} {Q : Ex → S → Prop} (h : Ends (B_l06_GeomOnce_2 E n n0 x23 x54 x9 x46 x8 x7 x30 x6 x0 x1 x2 y) Q) : Ends (L_l06_GeomOnce_2 E n n0 ⟨[(23, x23), (54, x54), (9, x9), (46, x46), (8, x8), (7, x7), (30, x30), (6, x6), (0, x0), (1, x1), (2, x2)], y⟩) Q := by
  rw [show L_l06_GeomOnce_2 E n n0 ⟨[(23, x23), (54, x54), (9, x9), (46, x46), (8, x8), (7, x7), (30, x30), (6, x6), (0, x0), (1, x1), (2, x2)], y⟩ = B_l06_GeomOnce_2 E n n0 x23 x54 x9 x46 x8 x7 x30 x6 x0 x1 x2 y by kernel_rfl]
  exact h
noncomputable def K_l06_GeomOnce_2 (E : FnA) (n n0 : Nat) (t : S) : Option (Ex × S) :=
  exitA (iter ⟨((28, (.v (Go.Value.int Go.IntKind.i64 0))) :: (prune kp_l06_GeomOnce t.env)), t.bx⟩ (L_l06_GeomOnce_3 E n n0) n ⟨((28, (.v (Go.Value.int Go.IntKind.i64 0))) :: (prune kp_l06_GeomOnce t.env)), t.bx⟩) (K_l06_GeomOnce_3 E n n0) (X_l06_GeomOnce_3 E n n0)
noncomputable def X_l06_GeomOnce_2 (E : FnA) (n n0 : Nat) (i : Nat) (t : S) : Option (Ex × S) :=
  if i = 4 then exitA (iter ⟨((28, (.v (Go.Value.int Go.IntKind.i64 0))) :: (prune kp_l06_GeomOnce t.env)), t.bx⟩ (L_l06_GeomOnce_3 E n n0) n ⟨((28, (.v (Go.Value.int Go.IntKind.i64 0))) :: (prune kp_l06_GeomOnce t.env)), t.bx⟩) (K_l06_GeomOnce_3 E n n0) (X_l06_GeomOnce_3 E n n0) else some (.exit i, ⟨t.env, t.bx⟩)
noncomputable def X_l06_GeomOnce_2_0 (E : FnA) (n n0 : Nat) (x136 x23 x54 x9 x46 x8 x7 x30 x6 x0 x1 x2 : AV) (y : Bx) : Option (Ex × S) :=
  exitA (iter ⟨[(28, (.v (Go.Value.int Go.IntKind.i64 0))), (136, x136), (23, x23), (54, x54), (9, x9), (46, x46), (8, x8), (7, x7), (30, x30), (6, x6), (0, x0), (1, x1), (2, x2)], y⟩ (L_l06_GeomOnce_3 E n n0) n ⟨[(28, (.v (Go.Value.int Go.IntKind.i64 0))), (136, x136), (23, x23), (54, x54), (9, x9), (46, x46), (8, x8), (7, x7), (30, x30), (6, x6), (0, x0), (1, x1), (2, x2)], y⟩) (K_l06_GeomOnce_3 E n n0) (X_l06_GeomOnce_3 E n n0)
theorem X_l06_GeomOnce_2_0_lit {E : FnA} {n n0 : Nat} {x136 x23 x54 x9 x46 x8 x7 x30 x6 x0 x1 x2 : AV} {y : Bx} {Q : Ex → S → Prop} (h : Ends (X_l06_GeomOnce_2_0 E n n0 x136 x23 x54 x9 x46 x8 x7 x30 x6 x0 x1 x2 y) Q) : Ends (X_l06_GeomOnce_2 E n n0 4 ⟨[(136, x136), (23, x23), (54, x54), (9, x9), (46, x46), (8, x8), (7, x7), (30, x30), (6, x6), (0, x0), (1, x1), (2, x2)], y⟩) Q := by
  rw [show X_l06_GeomOnce_2 E n n0 4 ⟨[(136, x136), (23, x23), (54, x54), (9, x9), (46, x46), (8, x8), (7, x7), (30, x30), (6, x6), (0, x0), (1, x1), (2, x2)], y⟩ = X_l06_GeomOnce_2_0 E n n0 x136 x23 x54 x9 x46 x8 x7 x30 x6 x0 x1 x2 y by kernel_rfl]
  exact h
noncomputable def L_l06_GeomOnce_0 (E : FnA) (n n0 : Nat) (s : S) : Option (Ex × S) :=
  (pv s.bx (fieldAddrA Try.prog 23 (get s.env 7) 0)).bind fun r110 =>
  (pv r110.2 (loadA Try.prog 3 r110.2 r110.1)).bind fun r111 =>
  (pv r111.2 (binA Try.prog .lss 3 (get s.env 9) r111.1)).bind fun r112 =>
  condA r112.1 ((pv r112.2 (loadA Try.prog 23 r112.2 (get (prune kp_l06_GeomOnce s.env) 7))).bind fun r113 =>
  (callA E md0 r113.2 16 [r113.1, (get (prune kp_l06_GeomOnce s.env) 9)]).bind fun r114 =>
  (pv r114.2 (tupA r114.1 0)).bind fun r115 =>
  (pv r115.2 (tupA r114.1 1)).bind fun r116 =>
  (pv r116.2 (loadA Try.prog 23 r116.2 (get (prune kp_l06_GeomOnce (prune kp_l06_GeomOnce s.env)) 7))).bind fun r117 =>
  (callA E md0 r117.2 18 [r117.1, (get (prune kp_l06_GeomOnce (prune kp_l06_GeomOnce s.env)) 9)]).bind fun r118 =>
  (pv r118.2 (tupA r118.1 0)).bind fun r119 =>
  (pv r119.2 (tupA r118.1 1)).bind fun r120 =>
  (pv r120.2 (loadA Try.prog 23 r120.2 (get (prune kp_l06_GeomOnce (prune kp_l06_GeomOnce (prune kp_l06_GeomOnce s.env))) 7))).bind fun r121 =>
  (callA E md0 r121.2 22 [r121.1, r115.1]).bind fun r122 =>
  (pv r122.2 (tupA r122.1 0)).bind fun r123 =>
  (pv r123.2 (tupA r122.1 1)).bind fun r124 =>
  (allocA Try.prog r124.2 41).bind fun r125 =>
  (stA Try.prog 41 r125.2 r125.1 r123.1).bind fun r126 =>
  (pv r126.2 (loadA Try.prog 23 r126.2 (get (prune kp_l06_GeomOnce (prune kp_l06_GeomOnce (prune kp_l06_GeomOnce (prune kp_l06_GeomOnce s.env)))) 7))).bind fun r127 =>
  (callA E md0 r127.2 22 [r127.1, r119.1]).bind fun r128 =>
  (pv r128.2 (tupA r128.1 0)).bind fun r129 =>
  (pv r129.2 (tupA r128.1 1)).bind fun r130 =>
  (allocA Try.prog r130.2 41).bind fun r131 =>
  (stA Try.prog 41 r131.2 r131.1 r129.1).bind fun r132 =>
  (pv r132.2 (loadA Try.prog 41 r132.2 r125.1)).bind fun r133 =>
  (pv r133.2 (buildA Try.prog 41 [(0, (.v (Go.Value.int Go.IntKind.i64 2))), (1, (get (prune kp_l06_GeomOnce (prune kp_l06_GeomOnce (prune kp_l06_GeomOnce (prune kp_l06_GeomOnce (prune kp_l06_GeomOnce s.env))))) 9))])).bind fun r134 =>
  (pv r134.2 (binA Try.prog .neq 41 r133.1 r134.1)).bind fun r135 =>
  (gsel false r135.2 (pv r135.2 (loadA Try.prog 41 r135.2 r131.1)) r135.1).bind fun r136 =>
  (gsel false r136.2 (some ((get (prune kp_l06_GeomOnce (prune kp_l06_GeomOnce (prune kp_l06_GeomOnce (prune kp_l06_GeomOnce (prune kp_l06_GeomOnce s.env))))) 9), r136.2)) r135.1).bind fun r137 =>
  (gsel false r137.2 (pv r137.2 (buildA Try.prog 41 [(0, (.v (Go.Value.int Go.IntKind.i64 3))), (1, r137.1)])) r135.1).bind fun r138 =>
  (gsel false r138.2 (pv r138.2 (binA Try.prog .neq 41 r136.1 r138.1)) r135.1).bind fun r139 =>
  (pv r139.2 (pickA r135.1 (.v (Go.Value.bool true)) r139.1)).bind fun r140 =>
  condA r140.1 (some (.ret, ⟨((6, (.v (Go.Value.bool false))) :: (90, r140.1) :: (16, r131.1) :: (14, r125.1) :: (12, r119.1) :: (10, r115.1) :: (54, r112.1) :: (prune kp_l06_GeomOnce (prune kp_l06_GeomOnce (prune kp_l06_GeomOnce (prune kp_l06_GeomOnce (prune kp_l06_GeomOnce (prune kp_l06_GeomOnce (prune kp_l06_GeomOnce s.env)))))))), r140.2⟩)) ((pv r140.2 (indexAddrA Try.prog 48 (get (prune kp_l06_GeomOnce (prune kp_l06_GeomOnce (prune kp_l06_GeomOnce (prune kp_l06_GeomOnce (prune kp_l06_GeomOnce (prune kp_l06_GeomOnce s.env)))))) 8) r115.1)).bind fun r141 =>
  (pv r141.2 (loadA Try.prog 3 r141.2 r141.1)).bind fun r142 =>
  (pv r142.2 (binA Try.prog .add 3 r142.1 (.v (Go.Value.int Go.IntKind.i64 1)))).bind fun r143 =>
  (pv r143.2 (indexAddrA Try.prog 48 (get (prune kp_l06_GeomOnce (prune kp_l06_GeomOnce (prune kp_l06_GeomOnce (prune kp_l06_GeomOnce (prune kp_l06_GeomOnce (prune kp_l06_GeomOnce s.env)))))) 8) r115.1)).bind fun r144 =>
  (stA Try.prog 3 r144.2 r144.1 r143.1).bind fun r145 =>
  (pv r145.2 (indexAddrA Try.prog 48 (get (prune kp_l06_GeomOnce (prune kp_l06_GeomOnce (prune kp_l06_GeomOnce (prune kp_l06_GeomOnce (prune kp_l06_GeomOnce (prune kp_l06_GeomOnce (prune kp_l06_GeomOnce s.env))))))) 8) r119.1)).bind fun r146 =>
  (pv r146.2 (loadA Try.prog 3 r146.2 r146.1)).bind fun r147 =>
  (pv r147.2 (binA Try.prog .add 3 r147.1 (.v (Go.Value.int Go.IntKind.i64 1)))).bind fun r148 =>
  (pv r148.2 (indexAddrA Try.prog 48 (get (prune kp_l06_GeomOnce (prune kp_l06_GeomOnce (prune kp_l06_GeomOnce (prune kp_l06_GeomOnce (prune kp_l06_GeomOnce (prune kp_l06_GeomOnce (prune kp_l06_GeomOnce s.env))))))) 8) r119.1)).bind fun r149 =>
  (stA Try.prog 3 r149.2 r149.1 r148.1).bind fun r150 =>
  exitA (iter ⟨((18, (.v (Go.Value.int Go.IntKind.i64 0))) :: (90, r140.1) :: (16, r131.1) :: (14, r125.1) :: (12, r119.1) :: (10, r115.1) :: (54, r112.1) :: (prune kp_l06_GeomOnce (prune kp_l06_GeomOnce (prune kp_l06_GeomOnce (prune kp_l06_GeomOnce (prune kp_l06_GeomOnce (prune kp_l06_GeomOnce (prune kp_l06_GeomOnce (prune kp_l06_GeomOnce (prune kp_l06_GeomOnce s.env)))))))))), r150.2⟩ (L_l06_GeomOnce_1 E n n0) n ⟨((18, (.v (Go.Value.int Go.IntKind.i64 0))) :: (90, r140.1) :: (16, r131.1) :: (14, r125.1) :: (12, r119.1) :: (10, r115.1) :: (54, r112.1) :: (prune kp_l06_GeomOnce (prune kp_l06_GeomOnce (prune kp_l06_GeomOnce (prune kp_l06_GeomOnce (prune kp_l06_GeomOnce (prune kp_l06_GeomOnce (prune kp_l06_GeomOnce (prune kp_l06_GeomOnce (prune kp_l06_GeomOnce s.env)))))))))), r150.2⟩) (K_l06_GeomOnce_1 E n n0) (X_l06_GeomOnce_1 E n n0))) (some (.exit 0, ⟨((54, r112.1) :: (prune kp_l06_GeomOnce s.env)), r112.2⟩))
noncomputable def B_l06_GeomOnce_0 (E : FnA) (n n0 : Nat) (x9 x46 x8 x7 x30 x6 x0 x1 x2 : AV) (y : Bx) : Option (Ex × S) :=
  (pv y (fieldAddrA Try.prog 23 x7 0)).bind fun r21 =>
  (pv r21.2 (loadA Try.prog 3 r21.2 r21.1)).bind fun r22 =>
  (pv r22.2 (binA Try.prog .lss 3 x9 r22.1)).bind fun r23 =>
  condA r23.1 ((pv r23.2 (loadA Try.prog 23 r23.2 x7)).bind fun r24 =>
  (callA E md0 r24.2 16 [r24.1, x9]).bind fun r25 =>
  (pv r25.2 (tupA r25.1 0)).bind fun r26 =>
  (pv r26.2 (tupA r25.1 1)).bind fun r27 =>
  (pv r27.2 (loadA Try.prog 23 r27.2 x7)).bind fun r28 =>
  (callA E md0 r28.2 18 [r28.1, x9]).bind fun r29 =>
  (pv r29.2 (tupA r29.1 0)).bind fun r30 =>
  (pv r30.2 (tupA r29.1 1)).bind fun r31 =>
  (pv r31.2 (loadA Try.prog 23 r31.2 x7)).bind fun r32 =>
  (callA E md0 r32.2 22 [r32.1, r26.1]).bind fun r33 =>
  (pv r33.2 (tupA r33.1 0)).bind fun r34 =>
  (pv r34.2 (tupA r33.1 1)).bind fun r35 =>
  (allocA Try.prog r35.2 41).bind fun r36 =>
  (stA Try.prog 41 r36.2 r36.1 r34.1).bind fun r37 =>
  (pv r37.2 (loadA Try.prog 23 r37.2 x7)).bind fun r38 =>
  (callA E md0 r38.2 22 [r38.1, r30.1]).bind fun r39 =>
  (pv r39.2 (tupA r39.1 0)).bind fun r40 =>
  (pv r40.2 (tupA r39.1 1)).bind fun r41 =>
  (allocA Try.prog r41.2 41).bind fun r42 =>
  (stA Try.prog 41 r42.2 r42.1 r40.1).bind fun r43 =>
  (pv r43.2 (loadA Try.prog 41 r43.2 r36.1)).bind fun r44 =>
  (pv r44.2 (buildA Try.prog 41 [(0, (.v (Go.Value.int Go.IntKind.i64 2))), (1, x9)])).bind fun r45 =>
  (pv r45.2 (binA Try.prog .neq 41 r44.1 r45.1)).bind fun r46 =>
  (gsel false r46.2 (pv r46.2 (loadA Try.prog 41 r46.2 r42.1)) r46.1).bind fun r47 =>
  (gsel false r47.2 (some (x9, r47.2)) r46.1).bind fun r48 =>
  (gsel false r48.2 (pv r48.2 (buildA Try.prog 41 [(0, (.v (Go.Value.int Go.IntKind.i64 3))), (1, r48.1)])) r46.1).bind fun r49 =>
  (gsel false r49.2 (pv r49.2 (binA Try.prog .neq 41 r47.1 r49.1)) r46.1).bind fun r50 =>
  (pv r50.2 (pickA r46.1 (.v (Go.Value.bool true)) r50.1)).bind fun r51 =>
  condA r51.1 (some (.ret, ⟨[(6, (.v (Go.Value.bool false))), (90, r51.1), (16, r42.1), (14, r36.1), (12, r30.1), (10, r26.1), (54, r23.1), (9, x9), (46, x46), (8, x8), (7, x7), (30, x30), (6, x6), (0, x0), (1, x1), (2, x2)], r51.2⟩)) ((pv r51.2 (indexAddrA Try.prog 48 x8 r26.1)).bind fun r52 =>
  (pv r52.2 (loadA Try.prog 3 r52.2 r52.1)).bind fun r53 =>
  (pv r53.2 (binA Try.prog .add 3 r53.1 (.v (Go.Value.int Go.IntKind.i64 1)))).bind fun r54 =>
  (pv r54.2 (indexAddrA Try.prog 48 x8 r26.1)).bind fun r55 =>
  (stA Try.prog 3 r55.2 r55.1 r54.1).bind fun r56 =>
  (pv r56.2 (indexAddrA Try.prog 48 x8 r30.1)).bind fun r57 =>
  (pv r57.2 (loadA Try.prog 3 r57.2 r57.1)).bind fun r58 =>
  (pv r58.2 (binA Try.prog .add 3 r58.1 (.v (Go.Value.int Go.IntKind.i64 1)))).bind fun r59 =>
  (pv r59.2 (indexAddrA Try.prog 48 x8 r30.1)).bind fun r60 =>
  (stA Try.prog 3 r60.2 r60.1 r59.1).bind fun r61 =>
  exitA (iter ⟨[(18, (.v (Go.Value.int Go.IntKind.i64 0))), (90, r51.1), (16, r42.1), (14, r36.1), (12, r30.1), (10, r26.1), (54, r23.1), (9, x9), (46, x46), (8, x8), (7, x7), (30, x30), (6, x6), (0, x0), (1, x1), (2, x2)], r61.2⟩ (L_l06_GeomOnce_1 E n n0) n ⟨[(18, (.v (Go.Value.int Go.IntKind.i64 0))), (90, r51.1), (16, r42.1), (14, r36.1), (12, r30.1), (10, r26.1), (54, r23.1), (9, x9), (46, x46), (8, x8), (7, x7), (30, x30), (6, x6), (0, x0), (1, x1), (2, x2)], r61.2⟩) (K_l06_GeomOnce_1 E n n0) (X_l06_GeomOnce_1 E n n0))) (some (.exit 0, ⟨[(54, r23.1), (9, x9), (46, x46), (8, x8), (7, x7), (30, x30), (6, x6), (0, x0), (1, x1), (2, x2)], r23.2⟩))
theorem L_l06_GeomOnce_0_lit {E : FnA} {n n0 : Nat} {x9 x46 x8 x7 x30 x6 x0 x1 x2 : AV} {y : Bx} {Q : Ex → S → Prop} (h : Ends (B_l06_GeomOnce_0 E n n0 x9 x46 x8 x7 x30 x6 x0 x1 x2 y) Q) : Ends (L_l06_GeomOnce_0 E n n0 ⟨[(9, x9), (46, x46), (8, x8), (7, x7), (30, x30), (6, x6), (0, x0), (1, x1), (2, x2)], y⟩) Q := by
  rw [show L_l06_GeomOnce_0 E n n0 ⟨[(9, x9), (46, x46), (8, x8), (7, x7), (30, x30), (6, x6), (0, x0), (1, x1), (2, x2)], y⟩ = B_l06_GeomOnce_0 E n n0 x9 x46 x8 x7 x30 x6 x0 x1 x2 y by kernel_rfl]
  exact h
noncomputable def K_l06_GeomOnce_0 (E : FnA) (n n0 : Nat) (t : S) : Option (Ex × S) :=
  exitA (iter ⟨((23, (.v (Go.Value.int Go.IntKind.i64 1))) :: (prune kp_l06_GeomOnce t.env)), t.bx⟩ (L_l06_GeomOnce_2 E n n0) n ⟨((23, (.v (Go.Value.int Go.IntKind.i64 1))) :: (prune kp_l06_GeomOnce t.env)), t.bx⟩) (K_l06_GeomOnce_2 E n n0) (X_l06_GeomOnce_2 E n n0)
noncomputable def X_l06_GeomOnce_0 (E : FnA) (n n0 : Nat) (i : Nat) (t : S) : Option (Ex × S) :=
  if i = 0 then exitA (iter ⟨((23, (.v (Go.Value.int Go.IntKind.i64 1))) :: (prune kp_l06_GeomOnce t.env)), t.bx⟩ (L_l06_GeomOnce_2 E n n0) n ⟨((23, (.v (Go.Value.int Go.IntKind.i64 1))) :: (prune kp_l06_GeomOnce t.env)), t.bx⟩) (K_l06_GeomOnce_2 E n n0) (X_l06_GeomOnce_2 E n n0) else some (.exit i, ⟨t.env, t.bx⟩)
noncomputable def X_l06_GeomOnce_0_0 (E : FnA) (n n0 : Nat) (x54 x9 x46 x8 x7 x30 x6 x0 x1 x2 : AV) (y : Bx) : Option (Ex × S) :=
  exitA (iter ⟨[(23, (.v (Go.Value.int Go.IntKind.i64 1))), (54, x54), (9, x9), (46, x46), (8, x8), (7, x7), (30, x30), (6, x6), (0, x0), (1, x1), (2, x2)], y⟩ (L_l06_GeomOnce_2 E n n0) n ⟨[(23, (.v (Go.Value.int Go.IntKind.i64 1))), (54, x54), (9, x9), (46, x46), (8, x8), (7, x7), (30, x30), (6, x6), (0, x0), (1, x1), (2, x2)], y⟩) (K_l06_GeomOnce_2 E n n0) (X_l06_GeomOnce_2 E n n0)
theorem X_l06_GeomOnce_0_0_lit {E : FnA} {n n0 : Nat} {x54 x9 x46 x8 x7 x30 x6 x0 x1 x2 : AV} {y : Bx} {Q : Ex → S → Prop} (h : Ends (X_l06_GeomOnce_0_0 E n n0 x54 x9 x46 x8 x7 x30 x6 x0 x1 x2 y) Q) : Ends (X_l06_GeomOnce_0 E n n0 0 ⟨[(54, x54), (9, x9), (46, x46), (8, x8), (7, x7), (30, x30), (6, x6), (0, x0), (1, x1), (2, x2)], y⟩) Q := by
  rw [show X_l06_GeomOnce_0 E n n0 0 ⟨[(54, x54), (9, x9), (46, x46), (8, x8), (7, x7), (30, x30), (6, x6), (0, x0), (1, x1), (2, x2)], y⟩ = X_l06_GeomOnce_0_0 E n n0 x54 x9 x46 x8 x7 x30 x6 x0 x1 x2 y by kernel_rfl]
  exact h
noncomputable def F_l06_GeomOnce (E : FnA) (n n0 : Nat) (a0 a1 a2 : AV) (bx : Bx) : Option (Ex × S) :=
  (callA E md0 bx 13 []).bind fun r1 =>
  (pv r1.2 (unA .not r1.1)).bind fun r2 =>
  condA r2.1 (some (.ret, ⟨[(6, (.v (Go.Value.bool false))), (30, r2.1), (6, (.v (Go.Value.bool false))), (0, a0), (1, a1), (2, a2)], r2.2⟩)) ((callA E md0 r2.2 24 [a0, (.v (Go.Value.int Go.IntKind.i64 8))]).bind fun r3 =>
  (pv r3.2 (binA Try.prog .add 3 (.v (Go.Value.int Go.IntKind.i64 1)) r3.1)).bind fun r4 =>
  (callA E md0 r4.2 24 [a1, (.v (Go.Value.int Go.IntKind.i64 8))]).bind fun r5 =>
  (pv r5.2 (binA Try.prog .add 3 (.v (Go.Value.int Go.IntKind.i64 1)) r5.1)).bind fun r6 =>
  (callA E md0 r6.2 24 [a2, (.v (Go.Value.int Go.IntKind.i64 30))]).bind fun r7 =>
  (pv r7.2 (binA Try.prog .add 3 (.v (Go.Value.int Go.IntKind.i64 4)) r7.1)).bind fun r8 =>
  (pv r8.2 (buildA Try.prog 23 [(0, r4.1), (1, r6.1), (2, r8.1)])).bind fun r9 =>
  (allocA Try.prog r9.2 23).bind fun r10 =>
  (stA Try.prog 23 r10.2 r10.1 r9.1).bind fun r11 =>
  (pv r11.2 (loadA Try.prog 23 r11.2 r10.1)).bind fun r12 =>
  (callA E md0 r12.2 9 [r12.1]).bind fun r13 =>
  (makeSliceA Try.prog r13.2 48 r13.1 r13.1).bind fun r14 =>
  (pv r14.2 (lenA Try.prog 48 r14.1)).bind fun r15 =>
  (pv r15.2 (binA Try.prog .lss 3 r15.1 (.v (Go.Value.int Go.IntKind.i64 2)))).bind fun r16 =>
  condA r16.1 (some (.ret, ⟨[(6, (.v (Go.Value.bool false))), (46, r16.1), (8, r14.1), (7, r10.1), (30, r2.1), (6, (.v (Go.Value.bool false))), (0, a0), (1, a1), (2, a2)], r16.2⟩)) ((pv r16.2 (indexAddrA Try.prog 48 r14.1 (.v (Go.Value.int Go.IntKind.i64 0)))).bind fun r17 =>
  (stA Try.prog 3 r17.2 r17.1 (.v (Go.Value.int Go.IntKind.i64 1))).bind fun r18 =>
  (pv r18.2 (indexAddrA Try.prog 48 r14.1 (.v (Go.Value.int Go.IntKind.i64 1)))).bind fun r19 =>
  (stA Try.prog 3 r19.2 r19.1 (.v (Go.Value.int Go.IntKind.i64 1))).bind fun r20 =>
  exitA (iter ⟨[(9, (.v (Go.Value.int Go.IntKind.i64 0))), (46, r16.1), (8, r14.1), (7, r10.1), (30, r2.1), (6, (.v (Go.Value.bool false))), (0, a0), (1, a1), (2, a2)], r20.2⟩ (L_l06_GeomOnce_0 E n n0) n ⟨[(9, (.v (Go.Value.int Go.IntKind.i64 0))), (46, r16.1), (8, r14.1), (7, r10.1), (30, r2.1), (6, (.v (Go.Value.bool false))), (0, a0), (1, a1), (2, a2)], r20.2⟩) (K_l06_GeomOnce_0 E n n0) (X_l06_GeomOnce_0 E n n0)))
theorem c_l06_GeomOnce_eq : Try.f6.body = some c_l06_GeomOnce := by kernel_rfl
theorem d_l06_GeomOnce : drawsOk Try.prog md0 c_l06_GeomOnce = true := by kernel_rfl
theorem F_l06_GeomOnce_eq (E : FnA) (n n0 : Nat) (a0 a1 a2 : AV) (bx : Bx) : evK Try.prog md0 E 193 kp_l06_GeomOnce n n0 c_l06_GeomOnce ⟨[(0, a0), (1, a1), (2, a2)], bx⟩ (fun s => some (.normal, s)) (fun i s => some (.exit i, s)) = F_l06_GeomOnce E n n0 a0 a1 a2 bx := by kernel_rfl

theorem E_l06_GeomOnce (n : Nat) (a0 a1 a2 : AV) (bx : Bx) : evFn cx0 ext0 (n + 1) 6 [a0, a1, a2] bx = fin Try.prog [.tmp 6] (F_l06_GeomOnce (evFn cx0 ext0 n) n bx.length a0 a1 a2 bx) := by
  rw [evFn_eq2 (cx := cx0) (c := c_l06_GeomOnce) rfl Try.func6 c_l06_GeomOnce_eq (of_decide_eq_true (by kernel_rfl)) d_l06_GeomOnce (of_decide_eq_true (by kernel_rfl))]
  exact congrArg (fin Try.prog [.tmp 6]) (F_l06_GeomOnce_eq (evFn cx0 ext0 n) n bx.length a0 a1 a2 bx)

/-- scupper/geom.Check -/
def kp_geom_Check : Option (List Nat) := some [0, 1, 2, 3, 27]
noncomputable def c_geom_Check : Code := Try.f7.body.getD .skip
noncomputable def F_geom_Check (E : FnA) (_n _n0 : Nat) (a0 : AV) (bx : Bx) : Option (Ex × S) :=
  (boxA bx a0).bind fun r1 =>
  (pv r1.2 (loadA Try.prog 23 r1.2 r1.1)).bind fun r2 =>
  (pv r2.2 (buildA Try.prog 23 [])).bind fun r3 =>
  (pv r3.2 (binA Try.prog .eql 23 r2.1 r3.1)).bind fun r4 =>
  (gsel false r4.2 (some ((.fn 25 [] []), r4.2)) r4.1).bind fun r5 =>
  (gsel false r5.2 (pv r5.2 (fieldAddrA Try.prog 23 r1.1 0)) r4.1).bind fun r6 =>
  (gsel false r6.2 (pv r6.2 (loadA Try.prog 3 r6.2 r6.1)) r4.1).bind fun r7 =>
  (gsel false r7.2 (callV E md0 r7.2 [r7.1, (.v (Go.Value.int Go.IntKind.i64 1)), (.v (Go.Value.int Go.IntKind.i64 8))] r5.1) r4.1).bind fun r8 =>
  (gsel false r8.2 (pv r8.2 (unA .not r8.1)) r4.1).bind fun r9 =>
  (pv r9.2 (pickA r4.1 (.v (Go.Value.bool true)) r9.1)).bind fun r10 =>
  (gsel false r10.2 (some ((.fn 25 [] []), r10.2)) r10.1).bind fun r11 =>
  (gsel false r11.2 (pv r11.2 (fieldAddrA Try.prog 23 r1.1 1)) r10.1).bind fun r12 =>
  (gsel false r12.2 (pv r12.2 (loadA Try.prog 3 r12.2 r12.1)) r10.1).bind fun r13 =>
  (gsel false r13.2 (callV E md0 r13.2 [r13.1, (.v (Go.Value.int Go.IntKind.i64 1)), (.v (Go.Value.int Go.IntKind.i64 8))] r11.1) r10.1).bind fun r14 =>
  (gsel false r14.2 (pv r14.2 (unA .not r14.1)) r10.1).bind fun r15 =>
  (pv r15.2 (pickA r10.1 (.v (Go.Value.bool true)) r15.1)).bind fun r16 =>
  (gsel false r16.2 (some ((.fn 25 [] []), r16.2)) r16.1).bind fun r17 =>
  (gsel false r17.2 (pv r17.2 (fieldAddrA Try.prog 23 r1.1 2)) r16.1).bind fun r18 =>
  (gsel false r18.2 (pv r18.2 (loadA Try.prog 3 r18.2 r18.1)) r16.1).bind fun r19 =>
  (gsel false r19.2 (callV E md0 r19.2 [r19.1, (.v (Go.Value.int Go.IntKind.i64 4)), (.v (Go.Value.int Go.IntKind.i64 128))] r17.1) r16.1).bind fun r20 =>
  (gsel false r20.2 (pv r20.2 (unA .not r20.1)) r16.1).bind fun r21 =>
  (pv r21.2 (pickA r16.1 (.v (Go.Value.bool true)) r21.1)).bind fun r22 =>
  condA r22.1 (some (.ret, ⟨[(2, (.v (Go.Value.int Go.IntKind.i64 2))), (27, r22.1), (3, (.fn 25 [] [])), (2, (.v (Go.Value.int Go.IntKind.i64 0))), (1, r1.1), (0, a0)], r22.2⟩)) (some (.ret, ⟨[(2, (.v (Go.Value.int Go.IntKind.i64 0))), (27, r22.1), (3, (.fn 25 [] [])), (2, (.v (Go.Value.int Go.IntKind.i64 0))), (1, r1.1), (0, a0)], r22.2⟩))
theorem c_geom_Check_eq : Try.f7.body = some c_geom_Check := by kernel_rfl
theorem d_geom_Check : drawsOk Try.prog md0 c_geom_Check = true := by kernel_rfl
theorem F_geom_Check_eq (E : FnA) (n n0 : Nat) (a0 : AV) (bx : Bx) : evK Try.prog md0 E 28 kp_geom_Check n n0 c_geom_Check ⟨[(0, a0)], bx⟩ (fun s => some (.normal, s)) (fun i s => some (.exit i, s)) = F_geom_Check E n n0 a0 bx := by kernel_rfl

theorem E_geom_Check (n : Nat) (a0 : AV) (bx : Bx) : evFn cx0 ext0 (n + 1) 7 [a0] bx = fin Try.prog [.tmp 2] (F_geom_Check (evFn cx0 ext0 n) n bx.length a0 bx) := by
  rw [evFn_eq2 (cx := cx0) (c := c_geom_Check) rfl Try.func7 c_geom_Check_eq (of_decide_eq_true (by kernel_rfl)) d_geom_Check (of_decide_eq_true (by kernel_rfl))]
  exact congrArg (fin Try.prog [.tmp 2]) (F_geom_Check_eq (evFn cx0 ext0 n) n bx.length a0 bx)

/-- scupper/scupperref06.Check -/
def kp_r06_Check : Option (List Nat) := some [0, 1, 2, 30]
noncomputable def c_r06_Check : Code := Try.f8.body.getD .skip
noncomputable def F_r06_Check (_E : FnA) (_n _n0 : Nat) (a0 : AV) (bx : Bx) : Option (Ex × S) :=
  (boxA bx a0).bind fun r1 =>
  (pv r1.2 (fieldAddrA Try.prog 23 r1.1 0)).bind fun r2 =>
  (pv r2.2 (loadA Try.prog 3 r2.2 r2.1)).bind fun r3 =>
  (pv r3.2 (binA Try.prog .lss 3 r3.1 (.v (Go.Value.int Go.IntKind.i64 1)))).bind fun r4 =>
  (gsel false r4.2 (pv r4.2 (fieldAddrA Try.prog 23 r1.1 0)) r4.1).bind fun r5 =>
  (gsel false r5.2 (pv r5.2 (loadA Try.prog 3 r5.2 r5.1)) r4.1).bind fun r6 =>
  (gsel false r6.2 (pv r6.2 (binA Try.prog .gtr 3 r6.1 (.v (Go.Value.int Go.IntKind.i64 8)))) r4.1).bind fun r7 =>
  (pv r7.2 (pickA r4.1 (.v (Go.Value.bool true)) r7.1)).bind fun r8 =>
  (gsel false r8.2 (pv r8.2 (fieldAddrA Try.prog 23 r1.1 1)) r8.1).bind fun r9 =>
  (gsel false r9.2 (pv r9.2 (loadA Try.prog 3 r9.2 r9.1)) r8.1).bind fun r10 =>
  (gsel false r10.2 (pv r10.2 (binA Try.prog .lss 3 r10.1 (.v (Go.Value.int Go.IntKind.i64 1)))) r8.1).bind fun r11 =>
  (pv r11.2 (pickA r8.1 (.v (Go.Value.bool true)) r11.1)).bind fun r12 =>
  (gsel false r12.2 (pv r12.2 (fieldAddrA Try.prog 23 r1.1 1)) r12.1).bind fun r13 =>
  (gsel false r13.2 (pv r13.2 (loadA Try.prog 3 r13.2 r13.1)) r12.1).bind fun r14 =>
  (gsel false r14.2 (pv r14.2 (binA Try.prog .gtr 3 r14.1 (.v (Go.Value.int Go.IntKind.i64 8)))) r12.1).bind fun r15 =>
  (pv r15.2 (pickA r12.1 (.v (Go.Value.bool true)) r15.1)).bind fun r16 =>
  (gsel false r16.2 (pv r16.2 (fieldAddrA Try.prog 23 r1.1 2)) r16.1).bind fun r17 =>
  (gsel false r17.2 (pv r17.2 (loadA Try.prog 3 r17.2 r17.1)) r16.1).bind fun r18 =>
  (gsel false r18.2 (pv r18.2 (binA Try.prog .lss 3 r18.1 (.v (Go.Value.int Go.IntKind.i64 4)))) r16.1).bind fun r19 =>
  (pv r19.2 (pickA r16.1 (.v (Go.Value.bool true)) r19.1)).bind fun r20 =>
  (gsel false r20.2 (pv r20.2 (fieldAddrA Try.prog 23 r1.1 2)) r20.1).bind fun r21 =>
  (gsel false r21.2 (pv r21.2 (loadA Try.prog 3 r21.2 r21.1)) r20.1).bind fun r22 =>
  (gsel false r22.2 (pv r22.2 (binA Try.prog .gtr 3 r22.1 (.v (Go.Value.int Go.IntKind.i64 128)))) r20.1).bind fun r23 =>
  (pv r23.2 (pickA r20.1 (.v (Go.Value.bool true)) r23.1)).bind fun r24 =>
  condA r24.1 (some (.ret, ⟨[(2, (.v (Go.Value.int Go.IntKind.i64 2))), (30, r24.1), (2, (.v (Go.Value.int Go.IntKind.i64 0))), (1, r1.1), (0, a0)], r24.2⟩)) (some (.ret, ⟨[(2, (.v (Go.Value.int Go.IntKind.i64 0))), (30, r24.1), (2, (.v (Go.Value.int Go.IntKind.i64 0))), (1, r1.1), (0, a0)], r24.2⟩))
theorem c_r06_Check_eq : Try.f8.body = some c_r06_Check := by kernel_rfl
theorem d_r06_Check : drawsOk Try.prog md0 c_r06_Check = true := by kernel_rfl
theorem F_r06_Check_eq (E : FnA) (n n0 : Nat) (a0 : AV) (bx : Bx) : evK Try.prog md0 E 31 kp_r06_Check n n0 c_r06_Check ⟨[(0, a0)], bx⟩ (fun s => some (.normal, s)) (fun i s => some (.exit i, s)) = F_r06_Check E n n0 a0 bx := by kernel_rfl

theorem E_r06_Check (n : Nat) (a0 : AV) (bx : Bx) : evFn cx0 ext0 (n + 1) 8 [a0] bx = fin Try.prog [.tmp 2] (F_r06_Check (evFn cx0 ext0 n) n bx.length a0 bx) := by
  rw [evFn_eq2 (cx := cx0) (c := c_r06_Check) rfl Try.func8 c_r06_Check_eq (of_decide_eq_true (by kernel_rfl)) d_r06_Check (of_decide_eq_true (by kernel_rfl))]
  exact congrArg (fin Try.prog [.tmp 2]) (F_r06_Check_eq (evFn cx0 ext0 n) n bx.length a0 bx)

/-- scupper/geom.Total -/
def kp_geom_Total : Option (List Nat) := some [0, 1, 2, 5]
noncomputable def c_geom_Total : Code := Try.f9.body.getD .skip
noncomputable def F_geom_Total (E : FnA) (_n _n0 : Nat) (a0 : AV) (bx : Bx) : Option (Ex × S) :=
  (boxA bx a0).bind fun r1 =>
  (pv r1.2 (loadA Try.prog 23 r1.2 r1.1)).bind fun r2 =>
  (callA E md0 r2.2 7 [r2.1]).bind fun r3 =>
  (pv r3.2 (binA Try.prog .neq 24 r3.1 (.v (Go.Value.int Go.IntKind.i64 0)))).bind fun r4 =>
  condA r4.1 (some (.ret, ⟨[(2, (.v (Go.Value.int Go.IntKind.i64 0))), (5, r4.1), (2, (.v (Go.Value.int Go.IntKind.i64 0))), (1, r1.1), (0, a0)], r4.2⟩)) ((pv r4.2 (fieldAddrA Try.prog 23 r1.1 0)).bind fun r5 =>
  (pv r5.2 (loadA Try.prog 3 r5.2 r5.1)).bind fun r6 =>
  (pv r6.2 (loadA Try.prog 23 r6.2 r1.1)).bind fun r7 =>
  (callA E md0 r7.2 26 [r7.1]).bind fun r8 =>
  (pv r8.2 (binA Try.prog .mul 3 r6.1 r8.1)).bind fun r9 =>
  (pv r9.2 (binA Try.prog .add 3 (.v (Go.Value.int Go.IntKind.i64 2)) r9.1)).bind fun r10 =>
  some (.ret, ⟨[(2, r10.1), (5, r4.1), (2, (.v (Go.Value.int Go.IntKind.i64 0))), (1, r1.1), (0, a0)], r10.2⟩))
theorem c_geom_Total_eq : Try.f9.body = some c_geom_Total := by kernel_rfl
theorem d_geom_Total : drawsOk Try.prog md0 c_geom_Total = true := by kernel_rfl
theorem F_geom_Total_eq (E : FnA) (n n0 : Nat) (a0 : AV) (bx : Bx) : evK Try.prog md0 E 12 kp_geom_Total n n0 c_geom_Total ⟨[(0, a0)], bx⟩ (fun s => some (.normal, s)) (fun i s => some (.exit i, s)) = F_geom_Total E n n0 a0 bx := by kernel_rfl

theorem E_geom_Total (n : Nat) (a0 : AV) (bx : Bx) : evFn cx0 ext0 (n + 1) 9 [a0] bx = fin Try.prog [.tmp 2] (F_geom_Total (evFn cx0 ext0 n) n bx.length a0 bx) := by
  rw [evFn_eq2 (cx := cx0) (c := c_geom_Total) rfl Try.func9 c_geom_Total_eq (of_decide_eq_true (by kernel_rfl)) d_geom_Total (of_decide_eq_true (by kernel_rfl))]
  exact congrArg (fin Try.prog [.tmp 2]) (F_geom_Total_eq (evFn cx0 ext0 n) n bx.length a0 bx)

/-- scupper/scupperref06.Total -/
def kp_r06_Total : Option (List Nat) := some [0, 1, 2, 5]
noncomputable def c_r06_Total : Code := Try.f10.body.getD .skip
noncomputable def F_r06_Total (E : FnA) (_n _n0 : Nat) (a0 : AV) (bx : Bx) : Option (Ex × S) :=
  (boxA bx a0).bind fun r1 =>
  (pv r1.2 (loadA Try.prog 23 r1.2 r1.1)).bind fun r2 =>
  (callA E md0 r2.2 8 [r2.1]).bind fun r3 =>
  (pv r3.2 (binA Try.prog .neq 24 r3.1 (.v (Go.Value.int Go.IntKind.i64 0)))).bind fun r4 =>
  condA r4.1 (some (.ret, ⟨[(2, (.v (Go.Value.int Go.IntKind.i64 0))), (5, r4.1), (2, (.v (Go.Value.int Go.IntKind.i64 0))), (1, r1.1), (0, a0)], r4.2⟩)) ((pv r4.2 (fieldAddrA Try.prog 23 r1.1 0)).bind fun r5 =>
  (pv r5.2 (loadA Try.prog 3 r5.2 r5.1)).bind fun r6 =>
  (pv r6.2 (fieldAddrA Try.prog 23 r1.1 1)).bind fun r7 =>
  (pv r7.2 (loadA Try.prog 3 r7.2 r7.1)).bind fun r8 =>
  (pv r8.2 (binA Try.prog .add 3 (.v (Go.Value.int Go.IntKind.i64 2)) r8.1)).bind fun r9 =>
  (pv r9.2 (fieldAddrA Try.prog 23 r1.1 2)).bind fun r10 =>
  (pv r10.2 (loadA Try.prog 3 r10.2 r10.1)).bind fun r11 =>
  (pv r11.2 (binA Try.prog .add 3 r9.1 r11.1)).bind fun r12 =>
  (pv r12.2 (binA Try.prog .mul 3 r6.1 r12.1)).bind fun r13 =>
  (pv r13.2 (binA Try.prog .add 3 (.v (Go.Value.int Go.IntKind.i64 2)) r13.1)).bind fun r14 =>
  some (.ret, ⟨[(2, r14.1), (5, r4.1), (2, (.v (Go.Value.int Go.IntKind.i64 0))), (1, r1.1), (0, a0)], r14.2⟩))
theorem c_r06_Total_eq : Try.f10.body = some c_r06_Total := by kernel_rfl
theorem d_r06_Total : drawsOk Try.prog md0 c_r06_Total = true := by kernel_rfl
theorem F_r06_Total_eq (E : FnA) (n n0 : Nat) (a0 : AV) (bx : Bx) : evK Try.prog md0 E 16 kp_r06_Total n n0 c_r06_Total ⟨[(0, a0)], bx⟩ (fun s => some (.normal, s)) (fun i s => some (.exit i, s)) = F_r06_Total E n n0 a0 bx := by kernel_rfl

theorem E_r06_Total (n : Nat) (a0 : AV) (bx : Bx) : evFn cx0 ext0 (n + 1) 10 [a0] bx = fin Try.prog [.tmp 2] (F_r06_Total (evFn cx0 ext0 n) n bx.length a0 bx) := by
  rw [evFn_eq2 (cx := cx0) (c := c_r06_Total) rfl Try.func10 c_r06_Total_eq (of_decide_eq_true (by kernel_rfl)) d_r06_Total (of_decide_eq_true (by kernel_rfl))]
  exact congrArg (fin Try.prog [.tmp 2]) (F_r06_Total_eq (evFn cx0 ext0 n) n bx.length a0 bx)

/-- scupper/geom.Inodes -/
def kp_geom_Inodes : Option (List Nat) := some [0, 1, 2, 5]
noncomputable def c_geom_Inodes : Code := Try.f11.body.getD .skip
noncomputable def F_geom_Inodes (E : FnA) (_n _n0 : Nat) (a0 : AV) (bx : Bx) : Option (Ex × S) :=
  (boxA bx a0).bind fun r1 =>
  (pv r1.2 (loadA Try.prog 23 r1.2 r1.1)).bind fun r2 =>
  (callA E md0 r2.2 7 [r2.1]).bind fun r3 =>
  (pv r3.2 (binA Try.prog .neq 24 r3.1 (.v (Go.Value.int Go.IntKind.i64 0)))).bind fun r4 =>
  condA r4.1 (some (.ret, ⟨[(2, (.v (Go.Value.int Go.IntKind.i64 0))), (5, r4.1), (2, (.v (Go.Value.int Go.IntKind.i64 0))), (1, r1.1), (0, a0)], r4.2⟩)) ((pv r4.2 (fieldAddrA Try.prog 23 r1.1 0)).bind fun r5 =>
  (pv r5.2 (loadA Try.prog 3 r5.2 r5.1)).bind fun r6 =>
  (pv r6.2 (binA Try.prog .mul 3 (.v (Go.Value.int Go.IntKind.i64 3)) r6.1)).bind fun r7 =>
  (pv r7.2 (fieldAddrA Try.prog 23 r1.1 1)).bind fun r8 =>
  (pv r8.2 (loadA Try.prog 3 r8.2 r8.1)).bind fun r9 =>
  (pv r9.2 (binA Try.prog .mul 3 r7.1 r9.1)).bind fun r10 =>
  some (.ret, ⟨[(2, r10.1), (5, r4.1), (2, (.v (Go.Value.int Go.IntKind.i64 0))), (1, r1.1), (0, a0)], r10.2⟩))
theorem c_geom_Inodes_eq : Try.f11.body = some c_geom_Inodes := by kernel_rfl
theorem d_geom_Inodes : drawsOk Try.prog md0 c_geom_Inodes = true := by kernel_rfl
theorem F_geom_Inodes_eq (E : FnA) (n n0 : Nat) (a0 : AV) (bx : Bx) : evK Try.prog md0 E 12 kp_geom_Inodes n n0 c_geom_Inodes ⟨[(0, a0)], bx⟩ (fun s => some (.normal, s)) (fun i s => some (.exit i, s)) = F_geom_Inodes E n n0 a0 bx := by kernel_rfl

theorem E_geom_Inodes (n : Nat) (a0 : AV) (bx : Bx) : evFn cx0 ext0 (n + 1) 11 [a0] bx = fin Try.prog [.tmp 2] (F_geom_Inodes (evFn cx0 ext0 n) n bx.length a0 bx) := by
  rw [evFn_eq2 (cx := cx0) (c := c_geom_Inodes) rfl Try.func11 c_geom_Inodes_eq (of_decide_eq_true (by kernel_rfl)) d_geom_Inodes (of_decide_eq_true (by kernel_rfl))]
  exact congrArg (fin Try.prog [.tmp 2]) (F_geom_Inodes_eq (evFn cx0 ext0 n) n bx.length a0 bx)

/-- scupper/scupperref06.Inodes -/
def kp_r06_Inodes : Option (List Nat) := some [0, 1, 2, 5]
noncomputable def c_r06_Inodes : Code := Try.f12.body.getD .skip
noncomputable def F_r06_Inodes (E : FnA) (_n _n0 : Nat) (a0 : AV) (bx : Bx) : Option (Ex × S) :=
  (boxA bx a0).bind fun r1 =>
  (pv r1.2 (loadA Try.prog 23 r1.2 r1.1)).bind fun r2 =>
  (callA E md0 r2.2 8 [r2.1]).bind fun r3 =>
  (pv r3.2 (binA Try.prog .neq 24 r3.1 (.v (Go.Value.int Go.IntKind.i64 0)))).bind fun r4 =>
  condA r4.1 (some (.ret, ⟨[(2, (.v (Go.Value.int Go.IntKind.i64 0))), (5, r4.1), (2, (.v (Go.Value.int Go.IntKind.i64 0))), (1, r1.1), (0, a0)], r4.2⟩)) ((pv r4.2 (fieldAddrA Try.prog 23 r1.1 0)).bind fun r5 =>
  (pv r5.2 (loadA Try.prog 3 r5.2 r5.1)).bind fun r6 =>
  (pv r6.2 (binA Try.prog .mul 3 (.v (Go.Value.int Go.IntKind.i64 3)) r6.1)).bind fun r7 =>
  (pv r7.2 (fieldAddrA Try.prog 23 r1.1 1)).bind fun r8 =>
  (pv r8.2 (loadA Try.prog 3 r8.2 r8.1)).bind fun r9 =>
  (pv r9.2 (binA Try.prog .mul 3 r7.1 r9.1)).bind fun r10 =>
  some (.ret, ⟨[(2, r10.1), (5, r4.1), (2, (.v (Go.Value.int Go.IntKind.i64 0))), (1, r1.1), (0, a0)], r10.2⟩))
theorem c_r06_Inodes_eq : Try.f12.body = some c_r06_Inodes := by kernel_rfl
theorem d_r06_Inodes : drawsOk Try.prog md0 c_r06_Inodes = true := by kernel_rfl
theorem F_r06_Inodes_eq (E : FnA) (n n0 : Nat) (a0 : AV) (bx : Bx) : evK Try.prog md0 E 12 kp_r06_Inodes n n0 c_r06_Inodes ⟨[(0, a0)], bx⟩ (fun s => some (.normal, s)) (fun i s => some (.exit i, s)) = F_r06_Inodes E n n0 a0 bx := by kernel_rfl

theorem E_r06_Inodes (n : Nat) (a0 : AV) (bx : Bx) : evFn cx0 ext0 (n + 1) 12 [a0] bx = fin Try.prog [.tmp 2] (F_r06_Inodes (evFn cx0 ext0 n) n bx.length a0 bx) := by
  rw [evFn_eq2 (cx := cx0) (c := c_r06_Inodes) rfl Try.func12 c_r06_Inodes_eq (of_decide_eq_true (by kernel_rfl)) d_r06_Inodes (of_decide_eq_true (by kernel_rfl))]
  exact congrArg (fin Try.prog [.tmp 2]) (F_r06_Inodes_eq (evFn cx0 ext0 n) n bx.length a0 bx)

/-- scupper/scupperlaw06.works -/
def kp_l06_works : Option (List Nat) := some [0, 1, 2, 3]
noncomputable def c_l06_works : Code := Try.f13.body.getD .skip
noncomputable def F_l06_works (E : FnA) (_n _n0 : Nat) (bx : Bx) : Option (Ex × S) :=
  (pv bx (buildA Try.prog 23 [(0, (.v (Go.Value.int Go.IntKind.i64 2))), (1, (.v (Go.Value.int Go.IntKind.i64 1))), (2, (.v (Go.Value.int Go.IntKind.i64 4)))])).bind fun r1 =>
  (allocA Try.prog r1.2 23).bind fun r2 =>
  (stA Try.prog 23 r2.2 r2.1 r1.1).bind fun r3 =>
  (pv r3.2 (loadA Try.prog 23 r3.2 r2.1)).bind fun r4 =>
  (callA E md0 r4.2 14 [r4.1, (.v (Go.Value.int Go.IntKind.i64 4))]).bind fun r5 =>
  (pv r5.2 (tupA r5.1 0)).bind fun r6 =>
  (pv r6.2 (tupA r5.1 1)).bind fun r7 =>
  (allocA Try.prog r7.2 30).bind fun r8 =>
  (stA Try.prog 30 r8.2 r8.1 r6.1).bind fun r9 =>
  (pv r9.2 (loadA Try.prog 23 r9.2 r2.1)).bind fun r10 =>
  (callA E md0 r10.2 9 [r10.1]).bind fun r11 =>
  (pv r11.2 (binA Try.prog .eql 3 r11.1 (.v (Go.Value.int Go.IntKind.i64 16)))).bind fun r12 =>
  (gsel true r12.2 (some (r7.1, r12.2)) r12.1).bind fun r13 =>
  (gsel true r13.2 (pv r13.2 (binA Try.prog .eql 24 r13.1 (.v (Go.Value.int Go.IntKind.i64 0)))) r12.1).bind fun r14 =>
  (pv r14.2 (pickA r12.1 r14.1 (.v (Go.Value.bool false)))).bind fun r15 =>
  (gsel true r15.2 (pv r15.2 (loadA Try.prog 30 r15.2 r8.1)) r15.1).bind fun r16 =>
  (gsel true r16.2 (pv r16.2 (buildA Try.prog 30 [(0, (.v (Go.Value.int Go.IntKind.i64 11))), (2, (.v (Go.Value.int Go.IntKind.i64 1)))])) r15.1).bind fun r17 =>
  (gsel true r17.2 (pv r17.2 (binA Try.prog .eql 30 r16.1 r17.1)) r15.1).bind fun r18 =>
  (pv r18.2 (pickA r15.1 r18.1 (.v (Go.Value.bool false)))).bind fun r19 =>
  some (.ret, ⟨[(0, r19.1), (3, r7.1), (2, r8.1), (1, r2.1), (0, (.v (Go.Value.bool false)))], r19.2⟩)
theorem c_l06_works_eq : Try.f13.body = some c_l06_works := by kernel_rfl
theorem d_l06_works : drawsOk Try.prog md0 c_l06_works = true := by kernel_rfl
theorem F_l06_works_eq (E : FnA) (n n0 : Nat) (bx : Bx) : evK Try.prog md0 E 22 kp_l06_works n n0 c_l06_works ⟨[], bx⟩ (fun s => some (.normal, s)) (fun i s => some (.exit i, s)) = F_l06_works E n n0  bx := by kernel_rfl

theorem E_l06_works (n : Nat) (bx : Bx) : evFn cx0 ext0 (n + 1) 13 [] bx = fin Try.prog [.tmp 0] (F_l06_works (evFn cx0 ext0 n) n bx.length  bx) := by
  rw [evFn_eq2 (cx := cx0) (c := c_l06_works) rfl Try.func13 c_l06_works_eq (of_decide_eq_true (by kernel_rfl)) d_l06_works (of_decide_eq_true (by kernel_rfl))]
  exact congrArg (fin Try.prog [.tmp 0]) (F_l06_works_eq (evFn cx0 ext0 n) n bx.length  bx)

/-- scupper/geom.Inode -/
def kp_geom_Inode : Option (List Nat) := some [0, 1, 2, 4, 5, 6, 7, 15]
noncomputable def c_geom_Inode : Code := Try.f14.body.getD .skip
noncomputable def F_geom_Inode (E : FnA) (_n _n0 : Nat) (a0 a1 : AV) (bx : Bx) : Option (Ex × S) :=
  (boxA bx a0).bind fun r1 =>
  (allocA Try.prog r1.2 30).bind fun r2 =>
  (pv r2.2 (binA Try.prog .lss 3 a1 (.v (Go.Value.int Go.IntKind.i64 1)))).bind fun r3 =>
  (gsel false r3.2 (some (a1, r3.2)) r3.1).bind fun r4 =>
  (gsel false r4.2 (pv r4.2 (loadA Try.prog 23 r4.2 r1.1)) r3.1).bind fun r5 =>
  (gsel false r5.2 (callA E md0 r5.2 11 [r5.1]) r3.1).bind fun r6 =>
  (gsel false r6.2 (pv r6.2 (binA Try.prog .gtr 3 r4.1 r6.1)) r3.1).bind fun r7 =>
  (pv r7.2 (pickA r3.1 (.v (Go.Value.bool true)) r7.1)).bind fun r8 =>
  condA r8.1 ((pv r8.2 (buildA Try.prog 30 [])).bind fun r9 =>
  (stA Try.prog 30 r9.2 r2.1 r9.1).bind fun r10 =>
  some (.ret, ⟨[(5, (.v (Go.Value.int Go.IntKind.i64 2))), (15, r8.1), (5, (.v (Go.Value.int Go.IntKind.i64 0))), (4, r2.1), (2, r1.1), (0, a0), (1, a1)], r10.2⟩)) ((pv r8.2 (fieldAddrA Try.prog 23 r1.1 1)).bind fun r11 =>
  (pv r11.2 (loadA Try.prog 3 r11.2 r11.1)).bind fun r12 =>
  (pv r12.2 (binA Try.prog .mul 3 (.v (Go.Value.int Go.IntKind.i64 3)) r12.1)).bind fun r13 =>
  (allocA Try.prog r13.2 30).bind fun r14 =>
  (pv r14.2 (binA Try.prog .sub 3 a1 (.v (Go.Value.int Go.IntKind.i64 1)))).bind fun r15 =>
  (pv r15.2 (binA Try.prog .quo 3 r15.1 r13.1)).bind fun r16 =>
  (pv r16.2 (binA Try.prog .sub 3 a1 (.v (Go.Value.int Go.IntKind.i64 1)))).bind fun r17 =>
  (pv r17.2 (binA Try.prog .rem 3 r17.1 r13.1)).bind fun r18 =>
  (pv r18.2 (buildA Try.prog 30 [(2, r16.1), (3, r18.1)])).bind fun r19 =>
  (stA Try.prog 30 r19.2 r14.1 r19.1).bind fun r20 =>
  (pv r20.2 (fieldAddrA Try.prog 30 r14.1 3)).bind fun r21 =>
  (pv r21.2 (loadA Try.prog 3 r21.2 r21.1)).bind fun r22 =>
  (pv r22.2 (binA Try.prog .rem 3 r22.1 (.v (Go.Value.int Go.IntKind.i64 3)))).bind fun r23 =>
  (pv r23.2 (fieldAddrA Try.prog 30 r14.1 1)).bind fun r24 =>
  (stA Try.prog 3 r24.2 r24.1 r23.1).bind fun r25 =>
  (pv r25.2 (loadA Try.prog 23 r25.2 r1.1)).bind fun r26 =>
  (pv r26.2 (fieldAddrA Try.prog 30 r14.1 2)).bind fun r27 =>
  (pv r27.2 (loadA Try.prog 3 r27.2 r27.1)).bind fun r28 =>
  (pv r28.2 (fieldAddrA Try.prog 30 r14.1 3)).bind fun r29 =>
  (pv r29.2 (loadA Try.prog 3 r29.2 r29.1)).bind fun r30 =>
  (pv r30.2 (binA Try.prog .quo 3 r30.1 (.v (Go.Value.int Go.IntKind.i64 3)))).bind fun r31 =>
  (pv r31.2 (binA Try.prog .add 3 (.v (Go.Value.int Go.IntKind.i64 2)) r31.1)).bind fun r32 =>
  (callA E md0 r32.2 27 [r26.1, r28.1, r32.1]).bind fun r33 =>
  (pv r33.2 (tupA r33.1 0)).bind fun r34 =>
  (pv r34.2 (tupA r33.1 1)).bind fun r35 =>
  (pv r35.2 (fieldAddrA Try.prog 30 r14.1 0)).bind fun r36 =>
  (stA Try.prog 3 r36.2 r36.1 r34.1).bind fun r37 =>
  (pv r37.2 (loadA Try.prog 30 r37.2 r14.1)).bind fun r38 =>
  (stA Try.prog 30 r38.2 r2.1 r38.1).bind fun r39 =>
  some (.ret, ⟨[(5, (.v (Go.Value.int Go.IntKind.i64 0))), (7, r14.1), (6, r13.1), (15, r8.1), (5, (.v (Go.Value.int Go.IntKind.i64 0))), (4, r2.1), (2, r1.1), (0, a0), (1, a1)], r39.2⟩))
theorem c_geom_Inode_eq : Try.f14.body = some c_geom_Inode := by kernel_rfl
theorem d_geom_Inode : drawsOk Try.prog md0 c_geom_Inode = true := by kernel_rfl
theorem F_geom_Inode_eq (E : FnA) (n n0 : Nat) (a0 a1 : AV) (bx : Bx) : evK Try.prog md0 E 46 kp_geom_Inode n n0 c_geom_Inode ⟨[(0, a0), (1, a1)], bx⟩ (fun s => some (.normal, s)) (fun i s => some (.exit i, s)) = F_geom_Inode E n n0 a0 a1 bx := by kernel_rfl

theorem E_geom_Inode (n : Nat) (a0 a1 : AV) (bx : Bx) : evFn cx0 ext0 (n + 1) 14 [a0, a1] bx = fin Try.prog [.cell 4 30, .tmp 5] (F_geom_Inode (evFn cx0 ext0 n) n bx.length a0 a1 bx) := by
  rw [evFn_eq2 (cx := cx0) (c := c_geom_Inode) rfl Try.func14 c_geom_Inode_eq (of_decide_eq_true (by kernel_rfl)) d_geom_Inode (of_decide_eq_true (by kernel_rfl))]
  exact congrArg (fin Try.prog [.cell 4 30, .tmp 5]) (F_geom_Inode_eq (evFn cx0 ext0 n) n bx.length a0 a1 bx)

/-- scupper/scupperref06.Inode -/
def kp_r06_Inode : Option (List Nat) := some [0, 1, 2, 4, 5, 6, 7, 8, 9, 23]
noncomputable def c_r06_Inode : Code := Try.f15.body.getD .skip
noncomputable def F_r06_Inode (E : FnA) (_n _n0 : Nat) (a0 a1 : AV) (bx : Bx) : Option (Ex × S) :=
  (boxA bx a0).bind fun r1 =>
  (allocA Try.prog r1.2 33).bind fun r2 =>
  (pv r2.2 (loadA Try.prog 23 r2.2 r1.1)).bind fun r3 =>
  (callA E md0 r3.2 8 [r3.1]).bind fun r4 =>
  (pv r4.2 (binA Try.prog .neq 24 r4.1 (.v (Go.Value.int Go.IntKind.i64 0)))).bind fun r5 =>
  (gsel false r5.2 (some (a1, r5.2)) r5.1).bind fun r6 =>
  (gsel false r6.2 (pv r6.2 (binA Try.prog .lss 3 r6.1 (.v (Go.Value.int Go.IntKind.i64 1)))) r5.1).bind fun r7 =>
  (pv r7.2 (pickA r5.1 (.v (Go.Value.bool true)) r7.1)).bind fun r8 =>
  (gsel false r8.2 (some (a1, r8.2)) r8.1).bind fun r9 =>
  (gsel false r9.2 (pv r9.2 (loadA Try.prog 23 r9.2 r1.1)) r8.1).bind fun r10 =>
  (gsel false r10.2 (callA E md0 r10.2 12 [r10.1]) r8.1).bind fun r11 =>
  (gsel false r11.2 (pv r11.2 (binA Try.prog .gtr 3 r9.1 r11.1)) r8.1).bind fun r12 =>
  (pv r12.2 (pickA r8.1 (.v (Go.Value.bool true)) r12.1)).bind fun r13 =>
  condA r13.1 ((pv r13.2 (buildA Try.prog 33 [])).bind fun r14 =>
  (stA Try.prog 33 r14.2 r2.1 r14.1).bind fun r15 =>
  some (.ret, ⟨[(5, (.v (Go.Value.int Go.IntKind.i64 2))), (23, r13.1), (5, (.v (Go.Value.int Go.IntKind.i64 0))), (4, r2.1), (2, r1.1), (0, a0), (1, a1)], r15.2⟩)) ((pv r13.2 (binA Try.prog .sub 3 a1 (.v (Go.Value.int Go.IntKind.i64 1)))).bind fun r16 =>
  (pv r16.2 (fieldAddrA Try.prog 23 r1.1 1)).bind fun r17 =>
  (pv r17.2 (loadA Try.prog 3 r17.2 r17.1)).bind fun r18 =>
  (pv r18.2 (binA Try.prog .mul 3 (.v (Go.Value.int Go.IntKind.i64 3)) r18.1)).bind fun r19 =>
  (pv r19.2 (binA Try.prog .quo 3 r16.1 r19.1)).bind fun r20 =>
  (pv r20.2 (fieldAddrA Try.prog 23 r1.1 1)).bind fun r21 =>
  (pv r21.2 (loadA Try.prog 3 r21.2 r21.1)).bind fun r22 =>
  (pv r22.2 (binA Try.prog .mul 3 (.v (Go.Value.int Go.IntKind.i64 3)) r22.1)).bind fun r23 =>
  (pv r23.2 (binA Try.prog .rem 3 r16.1 r23.1)).bind fun r24 =>
  (pv r24.2 (loadA Try.prog 23 r24.2 r1.1)).bind fun r25 =>
  (callA E md0 r25.2 28 [r25.1, r20.1]).bind fun r26 =>
  (pv r26.2 (tupA r26.1 0)).bind fun r27 =>
  (pv r27.2 (tupA r26.1 1)).bind fun r28 =>
  (pv r28.2 (binA Try.prog .add 3 r27.1 (.v (Go.Value.int Go.IntKind.i64 2)))).bind fun r29 =>
  (pv r29.2 (binA Try.prog .quo 3 r24.1 (.v (Go.Value.int Go.IntKind.i64 3)))).bind fun r30 =>
  (pv r30.2 (binA Try.prog .add 3 r29.1 r30.1)).bind fun r31 =>
  (pv r31.2 (binA Try.prog .rem 3 r24.1 (.v (Go.Value.int Go.IntKind.i64 3)))).bind fun r32 =>
  (pv r32.2 (buildA Try.prog 33 [(0, r31.1), (1, r32.1), (2, r20.1), (3, r24.1)])).bind fun r33 =>
  (stA Try.prog 33 r33.2 r2.1 r33.1).bind fun r34 =>
  some (.ret, ⟨[(5, (.v (Go.Value.int Go.IntKind.i64 0))), (9, r27.1), (8, r24.1), (7, r20.1), (6, r16.1), (23, r13.1), (5, (.v (Go.Value.int Go.IntKind.i64 0))), (4, r2.1), (2, r1.1), (0, a0), (1, a1)], r34.2⟩))
theorem c_r06_Inode_eq : Try.f15.body = some c_r06_Inode := by kernel_rfl
theorem d_r06_Inode : drawsOk Try.prog md0 c_r06_Inode = true := by kernel_rfl
theorem F_r06_Inode_eq (E : FnA) (n n0 : Nat) (a0 a1 : AV) (bx : Bx) : evK Try.prog md0 E 53 kp_r06_Inode n n0 c_r06_Inode ⟨[(0, a0), (1, a1)], bx⟩ (fun s => some (.normal, s)) (fun i s => some (.exit i, s)) = F_r06_Inode E n n0 a0 a1 bx := by kernel_rfl

theorem E_r06_Inode (n : Nat) (a0 a1 : AV) (bx : Bx) : evFn cx0 ext0 (n + 1) 15 [a0, a1] bx = fin Try.prog [.cell 4 33, .tmp 5] (F_r06_Inode (evFn cx0 ext0 n) n bx.length a0 a1 bx) := by
  rw [evFn_eq2 (cx := cx0) (c := c_r06_Inode) rfl Try.func15 c_r06_Inode_eq (of_decide_eq_true (by kernel_rfl)) d_r06_Inode (of_decide_eq_true (by kernel_rfl))]
  exact congrArg (fin Try.prog [.cell 4 33, .tmp 5]) (F_r06_Inode_eq (evFn cx0 ext0 n) n bx.length a0 a1 bx)

/-- scupper/geom.Head -/
def kp_geom_Head : Option (List Nat) := some [0, 1, 2, 4, 5]
noncomputable def c_geom_Head : Code := Try.f16.body.getD .skip
noncomputable def F_geom_Head (E : FnA) (_n _n0 : Nat) (a0 a1 : AV) (bx : Bx) : Option (Ex × S) :=
  (boxA bx a0).bind fun r1 =>
  (pv r1.2 (loadA Try.prog 23 r1.2 r1.1)).bind fun r2 =>
  (callA E md0 r2.2 27 [r2.1, a1, (.v (Go.Value.int Go.IntKind.i64 0))]).bind fun r3 =>
  (pv r3.2 (tupA r3.1 0)).bind fun r4 =>
  (pv r4.2 (tupA r3.1 1)).bind fun r5 =>
  some (.ret, ⟨[(5, r5.1), (4, r4.1), (5, (.v (Go.Value.int Go.IntKind.i64 0))), (4, (.v (Go.Value.int Go.IntKind.i64 0))), (2, r1.1), (0, a0), (1, a1)], r5.2⟩)
theorem c_geom_Head_eq : Try.f16.body = some c_geom_Head := by kernel_rfl
theorem d_geom_Head : drawsOk Try.prog md0 c_geom_Head = true := by kernel_rfl
theorem F_geom_Head_eq (E : FnA) (n n0 : Nat) (a0 a1 : AV) (bx : Bx) : evK Try.prog md0 E 11 kp_geom_Head n n0 c_geom_Head ⟨[(0, a0), (1, a1)], bx⟩ (fun s => some (.normal, s)) (fun i s => some (.exit i, s)) = F_geom_Head E n n0 a0 a1 bx := by kernel_rfl

theorem E_geom_Head (n : Nat) (a0 a1 : AV) (bx : Bx) : evFn cx0 ext0 (n + 1) 16 [a0, a1] bx = fin Try.prog [.tmp 4, .tmp 5] (F_geom_Head (evFn cx0 ext0 n) n bx.length a0 a1 bx) := by
  rw [evFn_eq2 (cx := cx0) (c := c_geom_Head) rfl Try.func16 c_geom_Head_eq (of_decide_eq_true (by kernel_rfl)) d_geom_Head (of_decide_eq_true (by kernel_rfl))]
  exact congrArg (fin Try.prog [.tmp 4, .tmp 5]) (F_geom_Head_eq (evFn cx0 ext0 n) n bx.length a0 a1 bx)

/-- scupper/scupperref06.Head -/
def kp_r06_Head : Option (List Nat) := some [0, 1, 2, 4, 5]
noncomputable def c_r06_Head : Code := Try.f17.body.getD .skip
noncomputable def F_r06_Head (E : FnA) (_n _n0 : Nat) (a0 a1 : AV) (bx : Bx) : Option (Ex × S) :=
  (boxA bx a0).bind fun r1 =>
  (pv r1.2 (loadA Try.prog 23 r1.2 r1.1)).bind fun r2 =>
  (callA E md0 r2.2 28 [r2.1, a1]).bind fun r3 =>
  (pv r3.2 (tupA r3.1 0)).bind fun r4 =>
  (pv r4.2 (tupA r3.1 1)).bind fun r5 =>
  some (.ret, ⟨[(5, r5.1), (4, r4.1), (5, (.v (Go.Value.int Go.IntKind.i64 0))), (4, (.v (Go.Value.int Go.IntKind.i64 0))), (2, r1.1), (0, a0), (1, a1)], r5.2⟩)
theorem c_r06_Head_eq : Try.f17.body = some c_r06_Head := by kernel_rfl
theorem d_r06_Head : drawsOk Try.prog md0 c_r06_Head = true := by kernel_rfl
theorem F_r06_Head_eq (E : FnA) (n n0 : Nat) (a0 a1 : AV) (bx : Bx) : evK Try.prog md0 E 11 kp_r06_Head n n0 c_r06_Head ⟨[(0, a0), (1, a1)], bx⟩ (fun s => some (.normal, s)) (fun i s => some (.exit i, s)) = F_r06_Head E n n0 a0 a1 bx := by kernel_rfl

theorem E_r06_Head (n : Nat) (a0 a1 : AV) (bx : Bx) : evFn cx0 ext0 (n + 1) 17 [a0, a1] bx = fin Try.prog [.tmp 4, .tmp 5] (F_r06_Head (evFn cx0 ext0 n) n bx.length a0 a1 bx) := by
  rw [evFn_eq2 (cx := cx0) (c := c_r06_Head) rfl Try.func17 c_r06_Head_eq (of_decide_eq_true (by kernel_rfl)) d_r06_Head (of_decide_eq_true (by kernel_rfl))]
  exact congrArg (fin Try.prog [.tmp 4, .tmp 5]) (F_r06_Head_eq (evFn cx0 ext0 n) n bx.length a0 a1 bx)

/-- scupper/geom.Maps -/
def kp_geom_Maps : Option (List Nat) := some [0, 1, 2, 4, 5]
noncomputable def c_geom_Maps : Code := Try.f18.body.getD .skip
noncomputable def F_geom_Maps (E : FnA) (_n _n0 : Nat) (a0 a1 : AV) (bx : Bx) : Option (Ex × S) :=
  (boxA bx a0).bind fun r1 =>
  (pv r1.2 (loadA Try.prog 23 r1.2 r1.1)).bind fun r2 =>
  (callA E md0 r2.2 27 [r2.1, a1, (.v (Go.Value.int Go.IntKind.i64 1))]).bind fun r3 =>
  (pv r3.2 (tupA r3.1 0)).bind fun r4 =>
  (pv r4.2 (tupA r3.1 1)).bind fun r5 =>
  some (.ret, ⟨[(5, r5.1), (4, r4.1), (5, (.v (Go.Value.int Go.IntKind.i64 0))), (4, (.v (Go.Value.int Go.IntKind.i64 0))), (2, r1.1), (0, a0), (1, a1)], r5.2⟩)
theorem c_geom_Maps_eq : Try.f18.body = some c_geom_Maps := by kernel_rfl
theorem d_geom_Maps : drawsOk Try.prog md0 c_geom_Maps = true := by kernel_rfl
theorem F_geom_Maps_eq (E : FnA) (n n0 : Nat) (a0 a1 : AV) (bx : Bx) : evK Try.prog md0 E 11 kp_geom_Maps n n0 c_geom_Maps ⟨[(0, a0), (1, a1)], bx⟩ (fun s => some (.normal, s)) (fun i s => some (.exit i, s)) = F_geom_Maps E n n0 a0 a1 bx := by kernel_rfl

theorem E_geom_Maps (n : Nat) (a0 a1 : AV) (bx : Bx) : evFn cx0 ext0 (n + 1) 18 [a0, a1] bx = fin Try.prog [.tmp 4, .tmp 5] (F_geom_Maps (evFn cx0 ext0 n) n bx.length a0 a1 bx) := by
  rw [evFn_eq2 (cx := cx0) (c := c_geom_Maps) rfl Try.func18 c_geom_Maps_eq (of_decide_eq_true (by kernel_rfl)) d_geom_Maps (of_decide_eq_true (by kernel_rfl))]
  exact congrArg (fin Try.prog [.tmp 4, .tmp 5]) (F_geom_Maps_eq (evFn cx0 ext0 n) n bx.length a0 a1 bx)

/-- scupper/scupperref06.Maps -/
def kp_r06_Maps : Option (List Nat) := some [0, 1, 2, 4, 5, 6, 7, 15]
noncomputable def c_r06_Maps : Code := Try.f19.body.getD .skip
noncomputable def F_r06_Maps (E : FnA) (_n _n0 : Nat) (a0 a1 : AV) (bx : Bx) : Option (Ex × S) :=
  (boxA bx a0).bind fun r1 =>
  (pv r1.2 (loadA Try.prog 23 r1.2 r1.1)).bind fun r2 =>
  (callA E md0 r2.2 28 [r2.1, a1]).bind fun r3 =>
  (pv r3.2 (tupA r3.1 0)).bind fun r4 =>
  (pv r4.2 (tupA r3.1 1)).bind fun r5 =>
  (pv r5.2 (binA Try.prog .neq 24 r5.1 (.v (Go.Value.int Go.IntKind.i64 0)))).bind fun r6 =>
  condA r6.1 (some (.ret, ⟨[(5, r5.1), (4, (.v (Go.Value.int Go.IntKind.i64 0))), (15, r6.1), (7, r5.1), (6, r4.1), (5, (.v (Go.Value.int Go.IntKind.i64 0))), (4, (.v (Go.Value.int Go.IntKind.i64 0))), (2, r1.1), (0, a0), (1, a1)], r6.2⟩)) ((pv r6.2 (binA Try.prog .add 3 r4.1 (.v (Go.Value.int Go.IntKind.i64 1)))).bind fun r7 =>
  some (.ret, ⟨[(5, (.v (Go.Value.int Go.IntKind.i64 0))), (4, r7.1), (15, r6.1), (7, r5.1), (6, r4.1), (5, (.v (Go.Value.int Go.IntKind.i64 0))), (4, (.v (Go.Value.int Go.IntKind.i64 0))), (2, r1.1), (0, a0), (1, a1)], r7.2⟩))
theorem c_r06_Maps_eq : Try.f19.body = some c_r06_Maps := by kernel_rfl
theorem d_r06_Maps : drawsOk Try.prog md0 c_r06_Maps = true := by kernel_rfl
theorem F_r06_Maps_eq (E : FnA) (n n0 : Nat) (a0 a1 : AV) (bx : Bx) : evK Try.prog md0 E 19 kp_r06_Maps n n0 c_r06_Maps ⟨[(0, a0), (1, a1)], bx⟩ (fun s => some (.normal, s)) (fun i s => some (.exit i, s)) = F_r06_Maps E n n0 a0 a1 bx := by kernel_rfl

theorem E_r06_Maps (n : Nat) (a0 a1 : AV) (bx : Bx) : evFn cx0 ext0 (n + 1) 19 [a0, a1] bx = fin Try.prog [.tmp 4, .tmp 5] (F_r06_Maps (evFn cx0 ext0 n) n bx.length a0 a1 bx) := by
  rw [evFn_eq2 (cx := cx0) (c := c_r06_Maps) rfl Try.func19 c_r06_Maps_eq (of_decide_eq_true (by kernel_rfl)) d_r06_Maps (of_decide_eq_true (by kernel_rfl))]
  exact congrArg (fin Try.prog [.tmp 4, .tmp 5]) (F_r06_Maps_eq (evFn cx0 ext0 n) n bx.length a0 a1 bx)

/-- scupper/geom.Data -/
def kp_geom_Data : Option (List Nat) := some [0, 1, 2, 3, 6, 7, 15]
noncomputable def c_geom_Data : Code := Try.f20.body.getD .skip
noncomputable def F_geom_Data (E : FnA) (_n _n0 : Nat) (a0 a1 a2 : AV) (bx : Bx) : Option (Ex × S) :=
  (boxA bx a0).bind fun r1 =>
  (pv r1.2 (binA Try.prog .lss 3 a2 (.v (Go.Value.int Go.IntKind.i64 0)))).bind fun r2 =>
  (gsel false r2.2 (some (a2, r2.2)) r2.1).bind fun r3 =>
  (gsel false r3.2 (pv r3.2 (fieldAddrA Try.prog 23 r1.1 2)) r2.1).bind fun r4 =>
  (gsel false r4.2 (pv r4.2 (loadA Try.prog 3 r4.2 r4.1)) r2.1).bind fun r5 =>
  (gsel false r5.2 (pv r5.2 (binA Try.prog .geq 3 r3.1 r5.1)) r2.1).bind fun r6 =>
  (pv r6.2 (pickA r2.1 (.v (Go.Value.bool true)) r6.1)).bind fun r7 =>
  condA r7.1 (some (.ret, ⟨[(7, (.v (Go.Value.int Go.IntKind.i64 2))), (6, (.v (Go.Value.int Go.IntKind.i64 0))), (15, r7.1), (7, (.v (Go.Value.int Go.IntKind.i64 0))), (6, (.v (Go.Value.int Go.IntKind.i64 0))), (3, r1.1), (0, a0), (1, a1), (2, a2)], r7.2⟩)) ((pv r7.2 (loadA Try.prog 23 r7.2 r1.1)).bind fun r8 =>
  (pv r8.2 (fieldAddrA Try.prog 23 r1.1 1)).bind fun r9 =>
  (pv r9.2 (loadA Try.prog 3 r9.2 r9.1)).bind fun r10 =>
  (pv r10.2 (binA Try.prog .add 3 (.v (Go.Value.int Go.IntKind.i64 2)) r10.1)).bind fun r11 =>
  (pv r11.2 (binA Try.prog .add 3 r11.1 a2)).bind fun r12 =>
  (callA E md0 r12.2 27 [r8.1, a1, r12.1]).bind fun r13 =>
  (pv r13.2 (tupA r13.1 0)).bind fun r14 =>
  (pv r14.2 (tupA r13.1 1)).bind fun r15 =>
  some (.ret, ⟨[(7, r15.1), (6, r14.1), (15, r7.1), (7, (.v (Go.Value.int Go.IntKind.i64 0))), (6, (.v (Go.Value.int Go.IntKind.i64 0))), (3, r1.1), (0, a0), (1, a1), (2, a2)], r15.2⟩))
theorem c_geom_Data_eq : Try.f20.body = some c_geom_Data := by kernel_rfl
theorem d_geom_Data : drawsOk Try.prog md0 c_geom_Data = true := by kernel_rfl
theorem F_geom_Data_eq (E : FnA) (n n0 : Nat) (a0 a1 a2 : AV) (bx : Bx) : evK Try.prog md0 E 26 kp_geom_Data n n0 c_geom_Data ⟨[(0, a0), (1, a1), (2, a2)], bx⟩ (fun s => some (.normal, s)) (fun i s => some (.exit i, s)) = F_geom_Data E n n0 a0 a1 a2 bx := by kernel_rfl

theorem E_geom_Data (n : Nat) (a0 a1 a2 : AV) (bx : Bx) : evFn cx0 ext0 (n + 1) 20 [a0, a1, a2] bx = fin Try.prog [.tmp 6, .tmp 7] (F_geom_Data (evFn cx0 ext0 n) n bx.length a0 a1 a2 bx) := by
  rw [evFn_eq2 (cx := cx0) (c := c_geom_Data) rfl Try.func20 c_geom_Data_eq (of_decide_eq_true (by kernel_rfl)) d_geom_Data (of_decide_eq_true (by kernel_rfl))]
  exact congrArg (fin Try.prog [.tmp 6, .tmp 7]) (F_geom_Data_eq (evFn cx0 ext0 n) n bx.length a0 a1 a2 bx)

/-- scupper/scupperref06.Data -/
def kp_r06_Data : Option (List Nat) := some [0, 1, 2, 3, 6, 7, 8, 9, 27]
noncomputable def c_r06_Data : Code := Try.f21.body.getD .skip
noncomputable def F_r06_Data (E : FnA) (_n _n0 : Nat) (a0 a1 a2 : AV) (bx : Bx) : Option (Ex × S) :=
  (boxA bx a0).bind fun r1 =>
  (pv r1.2 (loadA Try.prog 23 r1.2 r1.1)).bind fun r2 =>
  (callA E md0 r2.2 28 [r2.1, a1]).bind fun r3 =>
  (pv r3.2 (tupA r3.1 0)).bind fun r4 =>
  (pv r4.2 (tupA r3.1 1)).bind fun r5 =>
  (pv r5.2 (binA Try.prog .neq 24 r5.1 (.v (Go.Value.int Go.IntKind.i64 0)))).bind fun r6 =>
  (gsel false r6.2 (some (a2, r6.2)) r6.1).bind fun r7 =>
  (gsel false r7.2 (pv r7.2 (binA Try.prog .lss 3 r7.1 (.v (Go.Value.int Go.IntKind.i64 0)))) r6.1).bind fun r8 =>
  (pv r8.2 (pickA r6.1 (.v (Go.Value.bool true)) r8.1)).bind fun r9 =>
  (gsel false r9.2 (some (a2, r9.2)) r9.1).bind fun r10 =>
  (gsel false r10.2 (pv r10.2 (fieldAddrA Try.prog 23 r1.1 2)) r9.1).bind fun r11 =>
  (gsel false r11.2 (pv r11.2 (loadA Try.prog 3 r11.2 r11.1)) r9.1).bind fun r12 =>
  (gsel false r12.2 (pv r12.2 (binA Try.prog .geq 3 r10.1 r12.1)) r9.1).bind fun r13 =>
  (pv r13.2 (pickA r9.1 (.v (Go.Value.bool true)) r13.1)).bind fun r14 =>
  condA r14.1 (some (.ret, ⟨[(7, (.v (Go.Value.int Go.IntKind.i64 2))), (6, (.v (Go.Value.int Go.IntKind.i64 0))), (27, r14.1), (9, r5.1), (8, r4.1), (7, (.v (Go.Value.int Go.IntKind.i64 0))), (6, (.v (Go.Value.int Go.IntKind.i64 0))), (3, r1.1), (0, a0), (1, a1), (2, a2)], r14.2⟩)) ((pv r14.2 (binA Try.prog .add 3 r4.1 (.v (Go.Value.int Go.IntKind.i64 2)))).bind fun r15 =>
  (pv r15.2 (fieldAddrA Try.prog 23 r1.1 1)).bind fun r16 =>
  (pv r16.2 (loadA Try.prog 3 r16.2 r16.1)).bind fun r17 =>
  (pv r17.2 (binA Try.prog .add 3 r15.1 r17.1)).bind fun r18 =>
  (pv r18.2 (binA Try.prog .add 3 r18.1 a2)).bind fun r19 =>
  some (.ret, ⟨[(7, (.v (Go.Value.int Go.IntKind.i64 0))), (6, r19.1), (27, r14.1), (9, r5.1), (8, r4.1), (7, (.v (Go.Value.int Go.IntKind.i64 0))), (6, (.v (Go.Value.int Go.IntKind.i64 0))), (3, r1.1), (0, a0), (1, a1), (2, a2)], r19.2⟩))
theorem c_r06_Data_eq : Try.f21.body = some c_r06_Data := by kernel_rfl
theorem d_r06_Data : drawsOk Try.prog md0 c_r06_Data = true := by kernel_rfl
theorem F_r06_Data_eq (E : FnA) (n n0 : Nat) (a0 a1 a2 : AV) (bx : Bx) : evK Try.prog md0 E 35 kp_r06_Data n n0 c_r06_Data ⟨[(0, a0), (1, a1), (2, a2)], bx⟩ (fun s => some (.normal, s)) (fun i s => some (.exit i, s)) = F_r06_Data E n n0 a0 a1 a2 bx := by kernel_rfl

theorem E_r06_Data (n : Nat) (a0 a1 a2 : AV) (bx : Bx) : evFn cx0 ext0 (n + 1) 21 [a0, a1, a2] bx = fin Try.prog [.tmp 6, .tmp 7] (F_r06_Data (evFn cx0 ext0 n) n bx.length a0 a1 a2 bx) := by
  rw [evFn_eq2 (cx := cx0) (c := c_r06_Data) rfl Try.func21 c_r06_Data_eq (of_decide_eq_true (by kernel_rfl)) d_r06_Data (of_decide_eq_true (by kernel_rfl))]
  exact congrArg (fin Try.prog [.tmp 6, .tmp 7]) (F_r06_Data_eq (evFn cx0 ext0 n) n bx.length a0 a1 a2 bx)

/-- scupper/geom.Where -/
def kp_geom_Where : Option (List Nat) := some [0, 1, 2, 4, 5, 6, 7, 15, 18, 39, 43, 47]
noncomputable def c_geom_Where : Code := Try.f22.body.getD .skip
noncomputable def F_geom_Where (E : FnA) (_n _n0 : Nat) (a0 a1 : AV) (bx : Bx) : Option (Ex × S) :=
  (boxA bx a0).bind fun r1 =>
  (allocA Try.prog r1.2 41).bind fun r2 =>
  (pv r2.2 (binA Try.prog .lss 3 a1 (.v (Go.Value.int Go.IntKind.i64 0)))).bind fun r3 =>
  (gsel false r3.2 (some (a1, r3.2)) r3.1).bind fun r4 =>
  (gsel false r4.2 (pv r4.2 (loadA Try.prog 23 r4.2 r1.1)) r3.1).bind fun r5 =>
  (gsel false r5.2 (callA E md0 r5.2 9 [r5.1]) r3.1).bind fun r6 =>
  (gsel false r6.2 (pv r6.2 (binA Try.prog .geq 3 r4.1 r6.1)) r3.1).bind fun r7 =>
  (pv r7.2 (pickA r3.1 (.v (Go.Value.bool true)) r7.1)).bind fun r8 =>
  condA r8.1 ((pv r8.2 (buildA Try.prog 41 [])).bind fun r9 =>
  (stA Try.prog 41 r9.2 r2.1 r9.1).bind fun r10 =>
  some (.ret, ⟨[(5, (.v (Go.Value.int Go.IntKind.i64 2))), (15, r8.1), (5, (.v (Go.Value.int Go.IntKind.i64 0))), (4, r2.1), (2, r1.1), (0, a0), (1, a1)], r10.2⟩)) ((pv r8.2 (binA Try.prog .lss 3 a1 (.v (Go.Value.int Go.IntKind.i64 2)))).bind fun r11 =>
  condA r11.1 ((pv r11.2 (buildA Try.prog 41 [(0, (.v (Go.Value.int Go.IntKind.i64 1))), (2, a1)])).bind fun r12 =>
  (stA Try.prog 41 r12.2 r2.1 r12.1).bind fun r13 =>
  some (.ret, ⟨[(5, (.v (Go.Value.int Go.IntKind.i64 0))), (18, r11.1), (15, r8.1), (5, (.v (Go.Value.int Go.IntKind.i64 0))), (4, r2.1), (2, r1.1), (0, a0), (1, a1)], r13.2⟩)) ((pv r11.2 (binA Try.prog .sub 3 a1 (.v (Go.Value.int Go.IntKind.i64 2)))).bind fun r14 =>
  (pv r14.2 (loadA Try.prog 23 r14.2 r1.1)).bind fun r15 =>
  (callA E md0 r15.2 26 [r15.1]).bind fun r16 =>
  (pv r16.2 (binA Try.prog .quo 3 r14.1 r16.1)).bind fun r17 =>
  (pv r17.2 (buildA Try.prog 41 [(1, r17.1)])).bind fun r18 =>
  (allocA Try.prog r18.2 41).bind fun r19 =>
  (stA Try.prog 41 r19.2 r19.1 r18.1).bind fun r20 =>
  (pv r20.2 (binA Try.prog .sub 3 a1 (.v (Go.Value.int Go.IntKind.i64 2)))).bind fun r21 =>
  (pv r21.2 (loadA Try.prog 23 r21.2 r1.1)).bind fun r22 =>
  (callA E md0 r22.2 26 [r22.1]).bind fun r23 =>
  (pv r23.2 (binA Try.prog .rem 3 r21.1 r23.1)).bind fun r24 =>
  (pv r24.2 (binA Try.prog .eql 3 r24.1 (.v (Go.Value.int Go.IntKind.i64 0)))).bind fun r25 =>
  condA r25.1 ((pv r25.2 (fieldAddrA Try.prog 41 r19.1 0)).bind fun r26 =>
  (stA Try.prog 3 r26.2 r26.1 (.v (Go.Value.int Go.IntKind.i64 2))).bind fun r27 =>
  (pv r27.2 (loadA Try.prog 41 r27.2 r19.1)).bind fun r28 =>
  (stA Try.prog 41 r28.2 r2.1 r28.1).bind fun r29 =>
  some (.ret, ⟨[(5, (.v (Go.Value.int Go.IntKind.i64 0))), (39, r25.1), (7, r24.1), (6, r19.1), (18, r11.1), (15, r8.1), (5, (.v (Go.Value.int Go.IntKind.i64 0))), (4, r2.1), (2, r1.1), (0, a0), (1, a1)], r29.2⟩)) ((pv r25.2 (binA Try.prog .eql 3 r24.1 (.v (Go.Value.int Go.IntKind.i64 1)))).bind fun r30 =>
  condA r30.1 ((pv r30.2 (fieldAddrA Try.prog 41 r19.1 0)).bind fun r31 =>
  (stA Try.prog 3 r31.2 r31.1 (.v (Go.Value.int Go.IntKind.i64 3))).bind fun r32 =>
  (pv r32.2 (loadA Try.prog 41 r32.2 r19.1)).bind fun r33 =>
  (stA Try.prog 41 r33.2 r2.1 r33.1).bind fun r34 =>
  some (.ret, ⟨[(5, (.v (Go.Value.int Go.IntKind.i64 0))), (43, r30.1), (39, r25.1), (7, r24.1), (6, r19.1), (18, r11.1), (15, r8.1), (5, (.v (Go.Value.int Go.IntKind.i64 0))), (4, r2.1), (2, r1.1), (0, a0), (1, a1)], r34.2⟩)) ((pv r30.2 (fieldAddrA Try.prog 23 r1.1 1)).bind fun r35 =>
  (pv r35.2 (loadA Try.prog 3 r35.2 r35.1)).bind fun r36 =>
  (pv r36.2 (binA Try.prog .add 3 (.v (Go.Value.int Go.IntKind.i64 2)) r36.1)).bind fun r37 =>
  (pv r37.2 (binA Try.prog .lss 3 r24.1 r37.1)).bind fun r38 =>
  condA r38.1 ((pv r38.2 (binA Try.prog .sub 3 r24.1 (.v (Go.Value.int Go.IntKind.i64 2)))).bind fun r39 =>
  (pv r39.2 (fieldAddrA Try.prog 41 r19.1 0)).bind fun r40 =>
  (stA Try.prog 3 r40.2 r40.1 (.v (Go.Value.int Go.IntKind.i64 4))).bind fun r41 =>
  (pv r41.2 (fieldAddrA Try.prog 41 r19.1 2)).bind fun r42 =>
  (stA Try.prog 3 r42.2 r42.1 r39.1).bind fun r43 =>
  (pv r43.2 (loadA Try.prog 41 r43.2 r19.1)).bind fun r44 =>
  (stA Try.prog 41 r44.2 r2.1 r44.1).bind fun r45 =>
  some (.ret, ⟨[(5, (.v (Go.Value.int Go.IntKind.i64 0))), (47, r38.1), (43, r30.1), (39, r25.1), (7, r24.1), (6, r19.1), (18, r11.1), (15, r8.1), (5, (.v (Go.Value.int Go.IntKind.i64 0))), (4, r2.1), (2, r1.1), (0, a0), (1, a1)], r45.2⟩)) ((pv r38.2 (binA Try.prog .sub 3 r24.1 (.v (Go.Value.int Go.IntKind.i64 2)))).bind fun r46 =>
  (pv r46.2 (fieldAddrA Try.prog 23 r1.1 1)).bind fun r47 =>
  (pv r47.2 (loadA Try.prog 3 r47.2 r47.1)).bind fun r48 =>
  (pv r48.2 (binA Try.prog .sub 3 r46.1 r48.1)).bind fun r49 =>
  (pv r49.2 (fieldAddrA Try.prog 41 r19.1 0)).bind fun r50 =>
  (guardB (apartV r50.1 r47.1 && true)).bind fun _ =>
  (stA Try.prog 3 r50.2 r50.1 (.v (Go.Value.int Go.IntKind.i64 0))).bind fun r51 =>
  (pv r51.2 (fieldAddrA Try.prog 41 r19.1 2)).bind fun r52 =>
  (stA Try.prog 3 r52.2 r52.1 r49.1).bind fun r53 =>
  (pv r53.2 (loadA Try.prog 41 r53.2 r19.1)).bind fun r54 =>
  (stA Try.prog 41 r54.2 r2.1 r54.1).bind fun r55 =>
  some (.ret, ⟨[(5, (.v (Go.Value.int Go.IntKind.i64 0))), (47, r38.1), (43, r30.1), (39, r25.1), (7, r24.1), (6, r19.1), (18, r11.1), (15, r8.1), (5, (.v (Go.Value.int Go.IntKind.i64 0))), (4, r2.1), (2, r1.1), (0, a0), (1, a1)], r55.2⟩))))))
theorem c_geom_Where_eq : Try.f22.body = some c_geom_Where := by kernel_rfl
theorem d_geom_Where : drawsOk Try.prog md0 c_geom_Where = true := by kernel_rfl
theorem F_geom_Where_eq (E : FnA) (n n0 : Nat) (a0 a1 : AV) (bx : Bx) : evK Try.prog md0 E 58 kp_geom_Where n n0 c_geom_Where ⟨[(0, a0), (1, a1)], bx⟩ (fun s => some (.normal, s)) (fun i s => some (.exit i, s)) = F_geom_Where E n n0 a0 a1 bx := by kernel_rfl

theorem E_geom_Where (n : Nat) (a0 a1 : AV) (bx : Bx) : evFn cx0 ext0 (n + 1) 22 [a0, a1] bx = fin Try.prog [.cell 4 41, .tmp 5] (F_geom_Where (evFn cx0 ext0 n) n bx.length a0 a1 bx) := by
  rw [evFn_eq2 (cx := cx0) (c := c_geom_Where) rfl Try.func22 c_geom_Where_eq (of_decide_eq_true (by kernel_rfl)) d_geom_Where (of_decide_eq_true (by kernel_rfl))]
  exact congrArg (fin Try.prog [.cell 4 41, .tmp 5]) (F_geom_Where_eq (evFn cx0 ext0 n) n bx.length a0 a1 bx)

/-- scupper/scupperref06.Where -/
def kp_r06_Where : Option (List Nat) := some [0, 1, 2, 4, 5, 6, 7, 20, 23, 45, 49, 56]
noncomputable def c_r06_Where : Code := Try.f23.body.getD .skip
noncomputable def F_r06_Where (E : FnA) (_n _n0 : Nat) (a0 a1 : AV) (bx : Bx) : Option (Ex × S) :=
  (boxA bx a0).bind fun r1 =>
  (allocA Try.prog r1.2 44).bind fun r2 =>
  (pv r2.2 (loadA Try.prog 23 r2.2 r1.1)).bind fun r3 =>
  (callA E md0 r3.2 8 [r3.1]).bind fun r4 =>
  (pv r4.2 (binA Try.prog .neq 24 r4.1 (.v (Go.Value.int Go.IntKind.i64 0)))).bind fun r5 =>
  (gsel false r5.2 (some (a1, r5.2)) r5.1).bind fun r6 =>
  (gsel false r6.2 (pv r6.2 (binA Try.prog .lss 3 r6.1 (.v (Go.Value.int Go.IntKind.i64 0)))) r5.1).bind fun r7 =>
  (pv r7.2 (pickA r5.1 (.v (Go.Value.bool true)) r7.1)).bind fun r8 =>
  (gsel false r8.2 (some (a1, r8.2)) r8.1).bind fun r9 =>
  (gsel false r9.2 (pv r9.2 (loadA Try.prog 23 r9.2 r1.1)) r8.1).bind fun r10 =>
  (gsel false r10.2 (callA E md0 r10.2 10 [r10.1]) r8.1).bind fun r11 =>
  (gsel false r11.2 (pv r11.2 (binA Try.prog .geq 3 r9.1 r11.1)) r8.1).bind fun r12 =>
  (pv r12.2 (pickA r8.1 (.v (Go.Value.bool true)) r12.1)).bind fun r13 =>
  condA r13.1 ((pv r13.2 (buildA Try.prog 44 [])).bind fun r14 =>
  (stA Try.prog 44 r14.2 r2.1 r14.1).bind fun r15 =>
  some (.ret, ⟨[(5, (.v (Go.Value.int Go.IntKind.i64 2))), (20, r13.1), (5, (.v (Go.Value.int Go.IntKind.i64 0))), (4, r2.1), (2, r1.1), (0, a0), (1, a1)], r15.2⟩)) ((pv r13.2 (binA Try.prog .lss 3 a1 (.v (Go.Value.int Go.IntKind.i64 2)))).bind fun r16 =>
  condA r16.1 ((pv r16.2 (buildA Try.prog 44 [(0, (.v (Go.Value.int Go.IntKind.i64 1))), (1, (.v (Go.Value.int Go.IntKind.i64 0))), (2, a1)])).bind fun r17 =>
  (stA Try.prog 44 r17.2 r2.1 r17.1).bind fun r18 =>
  some (.ret, ⟨[(5, (.v (Go.Value.int Go.IntKind.i64 0))), (23, r16.1), (20, r13.1), (5, (.v (Go.Value.int Go.IntKind.i64 0))), (4, r2.1), (2, r1.1), (0, a0), (1, a1)], r18.2⟩)) ((pv r16.2 (binA Try.prog .sub 3 a1 (.v (Go.Value.int Go.IntKind.i64 2)))).bind fun r19 =>
  (pv r19.2 (fieldAddrA Try.prog 23 r1.1 1)).bind fun r20 =>
  (pv r20.2 (loadA Try.prog 3 r20.2 r20.1)).bind fun r21 =>
  (pv r21.2 (binA Try.prog .add 3 (.v (Go.Value.int Go.IntKind.i64 2)) r21.1)).bind fun r22 =>
  (pv r22.2 (fieldAddrA Try.prog 23 r1.1 2)).bind fun r23 =>
  (pv r23.2 (loadA Try.prog 3 r23.2 r23.1)).bind fun r24 =>
  (pv r24.2 (binA Try.prog .add 3 r22.1 r24.1)).bind fun r25 =>
  (pv r25.2 (binA Try.prog .quo 3 r19.1 r25.1)).bind fun r26 =>
  (pv r26.2 (binA Try.prog .sub 3 a1 (.v (Go.Value.int Go.IntKind.i64 2)))).bind fun r27 =>
  (pv r27.2 (fieldAddrA Try.prog 23 r1.1 1)).bind fun r28 =>
  (pv r28.2 (loadA Try.prog 3 r28.2 r28.1)).bind fun r29 =>
  (pv r29.2 (binA Try.prog .add 3 (.v (Go.Value.int Go.IntKind.i64 2)) r29.1)).bind fun r30 =>
  (pv r30.2 (fieldAddrA Try.prog 23 r1.1 2)).bind fun r31 =>
  (pv r31.2 (loadA Try.prog 3 r31.2 r31.1)).bind fun r32 =>
  (pv r32.2 (binA Try.prog .add 3 r30.1 r32.1)).bind fun r33 =>
  (pv r33.2 (binA Try.prog .rem 3 r27.1 r33.1)).bind fun r34 =>
  (pv r34.2 (binA Try.prog .eql 3 r34.1 (.v (Go.Value.int Go.IntKind.i64 0)))).bind fun r35 =>
  condA r35.1 ((pv r35.2 (buildA Try.prog 44 [(0, (.v (Go.Value.int Go.IntKind.i64 2))), (1, r26.1), (2, (.v (Go.Value.int Go.IntKind.i64 0)))])).bind fun r36 =>
  (stA Try.prog 44 r36.2 r2.1 r36.1).bind fun r37 =>
  some (.ret, ⟨[(5, (.v (Go.Value.int Go.IntKind.i64 0))), (45, r35.1), (7, r34.1), (6, r26.1), (23, r16.1), (20, r13.1), (5, (.v (Go.Value.int Go.IntKind.i64 0))), (4, r2.1), (2, r1.1), (0, a0), (1, a1)], r37.2⟩)) ((pv r35.2 (binA Try.prog .eql 3 r34.1 (.v (Go.Value.int Go.IntKind.i64 1)))).bind fun r38 =>
  condA r38.1 ((pv r38.2 (buildA Try.prog 44 [(0, (.v (Go.Value.int Go.IntKind.i64 3))), (1, r26.1), (2, (.v (Go.Value.int Go.IntKind.i64 0)))])).bind fun r39 =>
  (stA Try.prog 44 r39.2 r2.1 r39.1).bind fun r40 =>
  some (.ret, ⟨[(5, (.v (Go.Value.int Go.IntKind.i64 0))), (49, r38.1), (45, r35.1), (7, r34.1), (6, r26.1), (23, r16.1), (20, r13.1), (5, (.v (Go.Value.int Go.IntKind.i64 0))), (4, r2.1), (2, r1.1), (0, a0), (1, a1)], r40.2⟩)) ((pv r38.2 (fieldAddrA Try.prog 23 r1.1 1)).bind fun r41 =>
  (pv r41.2 (loadA Try.prog 3 r41.2 r41.1)).bind fun r42 =>
  (pv r42.2 (binA Try.prog .add 3 (.v (Go.Value.int Go.IntKind.i64 2)) r42.1)).bind fun r43 =>
  (pv r43.2 (binA Try.prog .lss 3 r34.1 r43.1)).bind fun r44 =>
  condA r44.1 ((pv r44.2 (binA Try.prog .sub 3 r34.1 (.v (Go.Value.int Go.IntKind.i64 2)))).bind fun r45 =>
  (pv r45.2 (buildA Try.prog 44 [(0, (.v (Go.Value.int Go.IntKind.i64 4))), (1, r26.1), (2, r45.1)])).bind fun r46 =>
  (stA Try.prog 44 r46.2 r2.1 r46.1).bind fun r47 =>
  some (.ret, ⟨[(5, (.v (Go.Value.int Go.IntKind.i64 0))), (56, r44.1), (49, r38.1), (45, r35.1), (7, r34.1), (6, r26.1), (23, r16.1), (20, r13.1), (5, (.v (Go.Value.int Go.IntKind.i64 0))), (4, r2.1), (2, r1.1), (0, a0), (1, a1)], r47.2⟩)) ((pv r44.2 (binA Try.prog .sub 3 r34.1 (.v (Go.Value.int Go.IntKind.i64 2)))).bind fun r48 =>
  (pv r48.2 (fieldAddrA Try.prog 23 r1.1 1)).bind fun r49 =>
  (pv r49.2 (loadA Try.prog 3 r49.2 r49.1)).bind fun r50 =>
  (pv r50.2 (binA Try.prog .sub 3 r48.1 r50.1)).bind fun r51 =>
  (pv r51.2 (buildA Try.prog 44 [(0, (.v (Go.Value.int Go.IntKind.i64 0))), (1, r26.1), (2, r51.1)])).bind fun r52 =>
  (stA Try.prog 44 r52.2 r2.1 r52.1).bind fun r53 =>
  some (.ret, ⟨[(5, (.v (Go.Value.int Go.IntKind.i64 0))), (56, r44.1), (49, r38.1), (45, r35.1), (7, r34.1), (6, r26.1), (23, r16.1), (20, r13.1), (5, (.v (Go.Value.int Go.IntKind.i64 0))), (4, r2.1), (2, r1.1), (0, a0), (1, a1)], r53.2⟩))))))
theorem c_r06_Where_eq : Try.f23.body = some c_r06_Where := by kernel_rfl
theorem d_r06_Where : drawsOk Try.prog md0 c_r06_Where = true := by kernel_rfl
theorem F_r06_Where_eq (E : FnA) (n n0 : Nat) (a0 a1 : AV) (bx : Bx) : evK Try.prog md0 E 68 kp_r06_Where n n0 c_r06_Where ⟨[(0, a0), (1, a1)], bx⟩ (fun s => some (.normal, s)) (fun i s => some (.exit i, s)) = F_r06_Where E n n0 a0 a1 bx := by kernel_rfl

theorem E_r06_Where (n : Nat) (a0 a1 : AV) (bx : Bx) : evFn cx0 ext0 (n + 1) 23 [a0, a1] bx = fin Try.prog [.cell 4 44, .tmp 5] (F_r06_Where (evFn cx0 ext0 n) n bx.length a0 a1 bx) := by
  rw [evFn_eq2 (cx := cx0) (c := c_r06_Where) rfl Try.func23 c_r06_Where_eq (of_decide_eq_true (by kernel_rfl)) d_r06_Where (of_decide_eq_true (by kernel_rfl))]
  exact congrArg (fin Try.prog [.cell 4 44, .tmp 5]) (F_r06_Where_eq (evFn cx0 ext0 n) n bx.length a0 a1 bx)

/-- scupper/scupperbase.Among -/
def kp_base_Among : Option (List Nat) := some [0, 1, 4, 6]
noncomputable def c_base_Among : Code := Try.f24.body.getD .skip
noncomputable def F_base_Among (_E : FnA) (_n _n0 : Nat) (a0 a1 : AV) (bx : Bx) : Option (Ex × S) :=
  (pv bx (binA Try.prog .lss 3 a1 (.v (Go.Value.int Go.IntKind.i64 1)))).bind fun r1 =>
  condA r1.1 (some (.ret, ⟨[(4, (.v (Go.Value.int Go.IntKind.i64 0))), (6, r1.1), (4, (.v (Go.Value.int Go.IntKind.i64 0))), (0, a0), (1, a1)], r1.2⟩)) ((convA Try.prog r1.2 3 50 a0).bind fun r2 =>
  (convA Try.prog r2.2 3 50 a1).bind fun r3 =>
  (pv r3.2 (binA Try.prog .rem 50 r2.1 r3.1)).bind fun r4 =>
  (convA Try.prog r4.2 50 3 r4.1).bind fun r5 =>
  some (.ret, ⟨[(4, r5.1), (6, r1.1), (4, (.v (Go.Value.int Go.IntKind.i64 0))), (0, a0), (1, a1)], r5.2⟩))
theorem c_base_Among_eq : Try.f24.body = some c_base_Among := by kernel_rfl
theorem d_base_Among : drawsOk Try.prog md0 c_base_Among = true := by kernel_rfl
theorem F_base_Among_eq (E : FnA) (n n0 : Nat) (a0 a1 : AV) (bx : Bx) : evK Try.prog md0 E 13 kp_base_Among n n0 c_base_Among ⟨[(0, a0), (1, a1)], bx⟩ (fun s => some (.normal, s)) (fun i s => some (.exit i, s)) = F_base_Among E n n0 a0 a1 bx := by kernel_rfl

theorem E_base_Among (n : Nat) (a0 a1 : AV) (bx : Bx) : evFn cx0 ext0 (n + 1) 24 [a0, a1] bx = fin Try.prog [.tmp 4] (F_base_Among (evFn cx0 ext0 n) n bx.length a0 a1 bx) := by
  rw [evFn_eq2 (cx := cx0) (c := c_base_Among) rfl Try.func24 c_base_Among_eq (of_decide_eq_true (by kernel_rfl)) d_base_Among (of_decide_eq_true (by kernel_rfl))]
  exact congrArg (fin Try.prog [.tmp 4]) (F_base_Among_eq (evFn cx0 ext0 n) n bx.length a0 a1 bx)

/-- scupper/geom.Check$1 -/
def kp_geom_Check_1 : Option (List Nat) := some [0, 1, 2, 6]
noncomputable def c_geom_Check_1 : Code := Try.f25.body.getD .skip
noncomputable def F_geom_Check_1 (_E : FnA) (_n _n0 : Nat) (a0 a1 a2 : AV) (bx : Bx) : Option (Ex × S) :=
  (pv bx (binA Try.prog .geq 3 a0 a1)).bind fun r1 =>
  (gsel true r1.2 (some (a0, r1.2)) r1.1).bind fun r2 =>
  (gsel true r2.2 (some (a2, r2.2)) r1.1).bind fun r3 =>
  (gsel true r3.2 (pv r3.2 (binA Try.prog .leq 3 r2.1 r3.1)) r1.1).bind fun r4 =>
  (pv r4.2 (pickA r1.1 r4.1 (.v (Go.Value.bool false)))).bind fun r5 =>
  some (.ret, ⟨[(6, r5.1), (6, (.v (Go.Value.bool false))), (0, a0), (1, a1), (2, a2)], r5.2⟩)
theorem c_geom_Check_1_eq : Try.f25.body = some c_geom_Check_1 := by kernel_rfl
theorem d_geom_Check_1 : drawsOk Try.prog md0 c_geom_Check_1 = true := by kernel_rfl
theorem F_geom_Check_1_eq (E : FnA) (n n0 : Nat) (a0 a1 a2 : AV) (bx : Bx) : evK Try.prog md0 E 15 kp_geom_Check_1 n n0 c_geom_Check_1 ⟨[(0, a0), (1, a1), (2, a2)], bx⟩ (fun s => some (.normal, s)) (fun i s => some (.exit i, s)) = F_geom_Check_1 E n n0 a0 a1 a2 bx := by kernel_rfl

theorem E_geom_Check_1 (n : Nat) (a0 a1 a2 : AV) (bx : Bx) : evFn cx0 ext0 (n + 1) 25 [a0, a1, a2] bx = fin Try.prog [.tmp 6] (F_geom_Check_1 (evFn cx0 ext0 n) n bx.length a0 a1 a2 bx) := by
  rw [evFn_eq2 (cx := cx0) (c := c_geom_Check_1) rfl Try.func25 c_geom_Check_1_eq (of_decide_eq_true (by kernel_rfl)) d_geom_Check_1 (of_decide_eq_true (by kernel_rfl))]
  exact congrArg (fin Try.prog [.tmp 6]) (F_geom_Check_1_eq (evFn cx0 ext0 n) n bx.length a0 a1 a2 bx)

/-- scupper/geom.size -/
def kp_geom_size : Option (List Nat) := some [0, 1, 2]
noncomputable def c_geom_size : Code := Try.f26.body.getD .skip
noncomputable def F_geom_size (_E : FnA) (_n _n0 : Nat) (a0 : AV) (bx : Bx) : Option (Ex × S) :=
  (boxA bx a0).bind fun r1 =>
  (pv r1.2 (fieldAddrA Try.prog 23 r1.1 1)).bind fun r2 =>
  (pv r2.2 (loadA Try.prog 3 r2.2 r2.1)).bind fun r3 =>
  (pv r3.2 (binA Try.prog .add 3 (.v (Go.Value.int Go.IntKind.i64 2)) r3.1)).bind fun r4 =>
  (pv r4.2 (fieldAddrA Try.prog 23 r1.1 2)).bind fun r5 =>
  (pv r5.2 (loadA Try.prog 3 r5.2 r5.1)).bind fun r6 =>
  (pv r6.2 (binA Try.prog .add 3 r4.1 r6.1)).bind fun r7 =>
  some (.ret, ⟨[(2, r7.1), (2, (.v (Go.Value.int Go.IntKind.i64 0))), (1, r1.1), (0, a0)], r7.2⟩)
theorem c_geom_size_eq : Try.f26.body = some c_geom_size := by kernel_rfl
theorem d_geom_size : drawsOk Try.prog md0 c_geom_size = true := by kernel_rfl
theorem F_geom_size_eq (E : FnA) (n n0 : Nat) (a0 : AV) (bx : Bx) : evK Try.prog md0 E 9 kp_geom_size n n0 c_geom_size ⟨[(0, a0)], bx⟩ (fun s => some (.normal, s)) (fun i s => some (.exit i, s)) = F_geom_size E n n0 a0 bx := by kernel_rfl

theorem E_geom_size (n : Nat) (a0 : AV) (bx : Bx) : evFn cx0 ext0 (n + 1) 26 [a0] bx = fin Try.prog [.tmp 2] (F_geom_size (evFn cx0 ext0 n) n bx.length a0 bx) := by
  rw [evFn_eq2 (cx := cx0) (c := c_geom_size) rfl Try.func26 c_geom_size_eq (of_decide_eq_true (by kernel_rfl)) d_geom_size (of_decide_eq_true (by kernel_rfl))]
  exact congrArg (fin Try.prog [.tmp 2]) (F_geom_size_eq (evFn cx0 ext0 n) n bx.length a0 bx)

/-- scupper/geom.in -/
def kp_geom_in : Option (List Nat) := some [0, 1, 2, 3, 6, 7, 20]
noncomputable def c_geom_in : Code := Try.f27.body.getD .skip
noncomputable def F_geom_in (E : FnA) (_n _n0 : Nat) (a0 a1 a2 : AV) (bx : Bx) : Option (Ex × S) :=
  (boxA bx a0).bind fun r1 =>
  (pv r1.2 (loadA Try.prog 23 r1.2 r1.1)).bind fun r2 =>
  (callA E md0 r2.2 7 [r2.1]).bind fun r3 =>
  (pv r3.2 (binA Try.prog .neq 24 r3.1 (.v (Go.Value.int Go.IntKind.i64 0)))).bind fun r4 =>
  (gsel false r4.2 (some (a1, r4.2)) r4.1).bind fun r5 =>
  (gsel false r5.2 (pv r5.2 (binA Try.prog .lss 3 r5.1 (.v (Go.Value.int Go.IntKind.i64 0)))) r4.1).bind fun r6 =>
  (pv r6.2 (pickA r4.1 (.v (Go.Value.bool true)) r6.1)).bind fun r7 =>
  (gsel false r7.2 (some (a1, r7.2)) r7.1).bind fun r8 =>
  (gsel false r8.2 (pv r8.2 (fieldAddrA Try.prog 23 r1.1 0)) r7.1).bind fun r9 =>
  (gsel false r9.2 (pv r9.2 (loadA Try.prog 3 r9.2 r9.1)) r7.1).bind fun r10 =>
  (gsel false r10.2 (pv r10.2 (binA Try.prog .geq 3 r8.1 r10.1)) r7.1).bind fun r11 =>
  (pv r11.2 (pickA r7.1 (.v (Go.Value.bool true)) r11.1)).bind fun r12 =>
  condA r12.1 (some (.ret, ⟨[(7, (.v (Go.Value.int Go.IntKind.i64 2))), (6, (.v (Go.Value.int Go.IntKind.i64 0))), (20, r12.1), (7, (.v (Go.Value.int Go.IntKind.i64 0))), (6, (.v (Go.Value.int Go.IntKind.i64 0))), (3, r1.1), (0, a0), (1, a1), (2, a2)], r12.2⟩)) ((pv r12.2 (loadA Try.prog 23 r12.2 r1.1)).bind fun r13 =>
  (callA E md0 r13.2 26 [r13.1]).bind fun r14 =>
  (pv r14.2 (binA Try.prog .mul 3 a1 r14.1)).bind fun r15 =>
  (pv r15.2 (binA Try.prog .add 3 (.v (Go.Value.int Go.IntKind.i64 2)) r15.1)).bind fun r16 =>
  (pv r16.2 (binA Try.prog .add 3 r16.1 a2)).bind fun r17 =>
  some (.ret, ⟨[(7, (.v (Go.Value.int Go.IntKind.i64 0))), (6, r17.1), (20, r12.1), (7, (.v (Go.Value.int Go.IntKind.i64 0))), (6, (.v (Go.Value.int Go.IntKind.i64 0))), (3, r1.1), (0, a0), (1, a1), (2, a2)], r17.2⟩))
theorem c_geom_in_eq : Try.f27.body = some c_geom_in := by kernel_rfl
theorem d_geom_in : drawsOk Try.prog md0 c_geom_in = true := by kernel_rfl
theorem F_geom_in_eq (E : FnA) (n n0 : Nat) (a0 a1 a2 : AV) (bx : Bx) : evK Try.prog md0 E 28 kp_geom_in n n0 c_geom_in ⟨[(0, a0), (1, a1), (2, a2)], bx⟩ (fun s => some (.normal, s)) (fun i s => some (.exit i, s)) = F_geom_in E n n0 a0 a1 a2 bx := by kernel_rfl

theorem E_geom_in (n : Nat) (a0 a1 a2 : AV) (bx : Bx) : evFn cx0 ext0 (n + 1) 27 [a0, a1, a2] bx = fin Try.prog [.tmp 6, .tmp 7] (F_geom_in (evFn cx0 ext0 n) n bx.length a0 a1 a2 bx) := by
  rw [evFn_eq2 (cx := cx0) (c := c_geom_in) rfl Try.func27 c_geom_in_eq (of_decide_eq_true (by kernel_rfl)) d_geom_in (of_decide_eq_true (by kernel_rfl))]
  exact congrArg (fin Try.prog [.tmp 6, .tmp 7]) (F_geom_in_eq (evFn cx0 ext0 n) n bx.length a0 a1 a2 bx)

/-- scupper/scupperref06.begin -/
def kp_r06_begin : Option (List Nat) := some [0, 1, 2, 4, 5, 18]
noncomputable def c_r06_begin : Code := Try.f28.body.getD .skip
noncomputable def F_r06_begin (E : FnA) (_n _n0 : Nat) (a0 a1 : AV) (bx : Bx) : Option (Ex × S) :=
  (boxA bx a0).bind fun r1 =>
  (pv r1.2 (loadA Try.prog 23 r1.2 r1.1)).bind fun r2 =>
  (callA E md0 r2.2 8 [r2.1]).bind fun r3 =>
  (pv r3.2 (binA Try.prog .neq 24 r3.1 (.v (Go.Value.int Go.IntKind.i64 0)))).bind fun r4 =>
  (gsel false r4.2 (some (a1, r4.2)) r4.1).bind fun r5 =>
  (gsel false r5.2 (pv r5.2 (binA Try.prog .lss 3 r5.1 (.v (Go.Value.int Go.IntKind.i64 0)))) r4.1).bind fun r6 =>
  (pv r6.2 (pickA r4.1 (.v (Go.Value.bool true)) r6.1)).bind fun r7 =>
  (gsel false r7.2 (some (a1, r7.2)) r7.1).bind fun r8 =>
  (gsel false r8.2 (pv r8.2 (fieldAddrA Try.prog 23 r1.1 0)) r7.1).bind fun r9 =>
  (gsel false r9.2 (pv r9.2 (loadA Try.prog 3 r9.2 r9.1)) r7.1).bind fun r10 =>
  (gsel false r10.2 (pv r10.2 (binA Try.prog .geq 3 r8.1 r10.1)) r7.1).bind fun r11 =>
  (pv r11.2 (pickA r7.1 (.v (Go.Value.bool true)) r11.1)).bind fun r12 =>
  condA r12.1 (some (.ret, ⟨[(5, (.v (Go.Value.int Go.IntKind.i64 2))), (4, (.v (Go.Value.int Go.IntKind.i64 0))), (18, r12.1), (5, (.v (Go.Value.int Go.IntKind.i64 0))), (4, (.v (Go.Value.int Go.IntKind.i64 0))), (2, r1.1), (0, a0), (1, a1)], r12.2⟩)) ((pv r12.2 (fieldAddrA Try.prog 23 r1.1 1)).bind fun r13 =>
  (pv r13.2 (loadA Try.prog 3 r13.2 r13.1)).bind fun r14 =>
  (pv r14.2 (binA Try.prog .add 3 (.v (Go.Value.int Go.IntKind.i64 2)) r14.1)).bind fun r15 =>
  (pv r15.2 (fieldAddrA Try.prog 23 r1.1 2)).bind fun r16 =>
  (pv r16.2 (loadA Try.prog 3 r16.2 r16.1)).bind fun r17 =>
  (pv r17.2 (binA Try.prog .add 3 r15.1 r17.1)).bind fun r18 =>
  (pv r18.2 (binA Try.prog .mul 3 a1 r18.1)).bind fun r19 =>
  (pv r19.2 (binA Try.prog .add 3 (.v (Go.Value.int Go.IntKind.i64 2)) r19.1)).bind fun r20 =>
  some (.ret, ⟨[(5, (.v (Go.Value.int Go.IntKind.i64 0))), (4, r20.1), (18, r12.1), (5, (.v (Go.Value.int Go.IntKind.i64 0))), (4, (.v (Go.Value.int Go.IntKind.i64 0))), (2, r1.1), (0, a0), (1, a1)], r20.2⟩))
theorem c_r06_begin_eq : Try.f28.body = some c_r06_begin := by kernel_rfl
theorem d_r06_begin : drawsOk Try.prog md0 c_r06_begin = true := by kernel_rfl
theorem F_r06_begin_eq (E : FnA) (n n0 : Nat) (a0 a1 : AV) (bx : Bx) : evK Try.prog md0 E 28 kp_r06_begin n n0 c_r06_begin ⟨[(0, a0), (1, a1)], bx⟩ (fun s => some (.normal, s)) (fun i s => some (.exit i, s)) = F_r06_begin E n n0 a0 a1 bx := by kernel_rfl

theorem E_r06_begin (n : Nat) (a0 a1 : AV) (bx : Bx) : evFn cx0 ext0 (n + 1) 28 [a0, a1] bx = fin Try.prog [.tmp 4, .tmp 5] (F_r06_begin (evFn cx0 ext0 n) n bx.length a0 a1 bx) := by
  rw [evFn_eq2 (cx := cx0) (c := c_r06_begin) rfl Try.func28 c_r06_begin_eq (of_decide_eq_true (by kernel_rfl)) d_r06_begin (of_decide_eq_true (by kernel_rfl))]
  exact congrArg (fin Try.prog [.tmp 4, .tmp 5]) (F_r06_begin_eq (evFn cx0 ext0 n) n bx.length a0 a1 bx)

end Go.Sy
